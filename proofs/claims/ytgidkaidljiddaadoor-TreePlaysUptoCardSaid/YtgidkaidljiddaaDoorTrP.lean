/-
  Walk of tree.Play. Conditions: none beyond the theorem's own premises.
-/
import Derived.Test.YtgidkaidljiddaaDoorTrN
import Derived.Test.YtgidkaidljiddaaDoorTrK
namespace Go.Proofs.YtgidkaidljiddaaDoor
open Go.RowKit Go.Shelf
set_option linter.unusedVariables false
namespace Tr
open Dr Pt

/-- an operation as it lies in memory -/
structure TOp where
  kind : Int
  x : By
  y : By
def TOp.cells (o : TOp) : List Value := [.int .i64 o.kind, .string (bs o.x), .string (bs o.y)]
theorem TOp.len : ∀ o : TOp, o.cells.length = 3 := fun _ => rfl
def TOp.op (o : TOp) : Op := ⟨o.kind, parts o.x, parts o.y⟩
def ec (e : Int) : List Value := [.int .i64 e]
theorem ec_len : ∀ e : Int, (ec e).length = 1 := fun _ => rfl
theorem err_info : (Tryd.prog.info? 28).map (fun i => (i.zero, i.size, i.bytes)) = some (some (.int .i64 0), 1, 8) := by kernel_rfl
theorem leaf_info : (Tryd.prog.info? 31).map (fun i => (i.zero, i.size, i.bytes)) = some (some (.agg #[.string ⟨#[]⟩, .bool false, .int .i64 0]), 3, 32) := by kernel_rfl
abbrev eR (A : Option Addr) (n c : Nat) (l : List Int) : It := .row 28 1 (.slice A n c) n (l.flatMap ec)
abbrev lR (A : Option Addr) (n c : Nat) (l : List Lf) : It := .row 31 3 (.slice A n c) n (l.flatMap Lf.cells)
def PlayRet (w : World) (n : Nat) (es : List Int) (H : Tree) (F : Nat → Bool) (e : Ending) (w' : World) : Prop :=
  ∃ A1 c1 A2 m c2 out, e = .returned (.tuple #[.slice A1 n c1, .slice A2 m c2]) ∧ Hid (out.length = m) ∧ Hid (LeavesAre H F out) ∧ n ≤ c1 ∧ m ≤ 2932031007403 ∧ Sep w w' [eR A1 n c1 es, lR A2 m c2 out]
theorem plays_next {H : Tree} {F : Nat → Bool} {nn : Nat} {l : List TOp} {k : Nat} {o : TOp} {es : List Int} {H1 : Tree} {F1 : Nat → Bool} {n1 : Nat} (h : Plays H F nn ((l.drop k).map TOp.op) es H1 F1 n1) (ho : l[k]? = some o) :
    ∃ e es' H2 F2 n2, es = e :: es' ∧ Way H F nn o.op e H2 F2 n2 ∧ Plays H2 F2 n2 ((l.drop (k + 1)).map TOp.op) es' H1 F1 n1 := by
  obtain ⟨hl, e⟩ := List.getElem?_eq_some_iff.1 ho
  rw [List.drop_eq_getElem_cons hl, e, List.map_cons] at h
  cases h with
  | cons hw ht => exact ⟨_, _, _, _, _, rfl, hw, ht⟩
theorem plays_end {H : Tree} {F : Nat → Bool} {nn : Nat} {l : List TOp} {k : Nat} {es : List Int} {H1 : Tree} {F1 : Nat → Bool} {n1 : Nat} (h : Plays H F nn ((l.drop k).map TOp.op) es H1 F1 n1) (hk : l.length ≤ k) : es = [] ∧ H1 = H ∧ F1 = F ∧ n1 = nn := by
  rw [List.drop_of_length_le hk] at h
  cases h
  exact ⟨rfl, rfl, rfl, rfl⟩
theorem tab0 {α : Type} (v : Nat → α) : Tab H0 v (mup mno (P []) (v 0)) := by
  have e : (mno : ByteArray → Option α) = mno := rfl
  intro k x
  by_cases hk : k = P []
  · subst hk
    rw [mup_same]
    constructor
    · intro e
      cases e
      exact ⟨[], 0, (show Cl [] from fun x hx => by cases hx), (show H0 [] = some 0 by unfold H0; rw [if_pos rfl]), rfl, rfl⟩
    · rintro ⟨l, a, hl, h1, h2, rfl⟩
      unfold H0 at h1
      split at h1
      · cases h1; rfl
      · cases h1
  · rw [mup_other _ _ hk]
    constructor
    · intro e; cases e
    · rintro ⟨l, a, hl, h1, h2, rfl⟩
      unfold H0 at h1
      split at h1
      · next e => exact absurd (by rw [h2, e]) hk
      · cases h1
theorem mid_set {B : List It} {X Y Z : It} : (B ++ [X] ++ [Y]).set B.length Z = B ++ [Z] ++ [Y] := by
  rw [List.append_assoc, List.append_assoc, List.set_append_right _ _ (Nat.le_refl _), Nat.sub_self]
  rfl
theorem mid_at {B : List It} {X Y : It} : (B ++ [X] ++ [Y])[B.length]? = some X := by
  rw [List.append_assoc, List.getElem?_append_right (Nat.le_refl _), Nat.sub_self]
  rfl
theorem mid_last {B : List It} {X Y : It} : (B ++ [X] ++ [Y])[B.length + 1]? = some Y := by
  rw [List.append_assoc, List.getElem?_append_right (by omega), Nat.add_sub_cancel_left]
  rfl
theorem cons_node {Y : It} {X : List It} {G : Nat → Nat} {F : Nat → Bool} {nn a : Nat} (ha : a < nn) : (Y :: (X ++ nodes G F nn))[X.length + a + 1]? = some (nC G F a) := by
  rw [List.getElem?_cons_succ, List.getElem?_append_right (by omega), show X.length + a - X.length = a by omega]
  exact nodes_at ha
theorem Sep.newMap_links {w0 w : World} {L : List It} (H : Sep w0 w L) (G : Nat → Nat) (nn : Nat) : Sep w0 (w.alloc (.map #[] 0)) (L ++ [lm G nn w.heap.size 0 mno]) := Pm.Sep.newMap H (NS G nn) Tryd.prog 33 pk (Value.int .i64)
theorem sep_key {w0 w : World} {L : List It} (H : Sep w0 w L) (i : Nat) {g n : Nat} {h : ByteArray → Option Value} (hi : L[i]? = some (tm g n h)) {x : ByteArray} (hx : (h x).isSome = true) : x.size ≤ maxLen := by
  obtain ⟨es, clock, hb, M⟩ := H.all i _ hi
  obtain ⟨a, ha⟩ := Option.isSome_iff_exists.1 hx
  obtain ⟨e, m1, k1, _⟩ := M.full x a ha
  obtain ⟨l, hl⟩ := M.fit.keys e m1
  obtain ⟨y, hy, _, hle⟩ := Maps.keyOf_str Tryd.underlying9 hl
  rw [k1] at hy
  have := Value.string.inj hy
  subst this
  simpa [ByteArray.size] using hle
theorem take_next {α : Type} {l : List α} {k : Nat} {x : α} (h : l[k]? = some x) : l.take (k + 1) = l.take k ++ [x] := by rw [List.take_add_one, h]; rfl

set_option maxRecDepth 100000 in
set_option maxHeartbeats 6400000 in
theorem play_any (Ad : Option Addr) (N cO : Nat) (ops : List TOp) (an : List Int) (H1 : Tree) (F1 : Nat → Bool) (n1 : Nat) (w : World) (hr : Rd w w.heap.size 3 Ad N (ops.flatMap TOp.cells)) (hl : ops.length = N) (hN : N ≤ 1048576) (hp : Plays H0 F0 1 (ops.map TOp.op) an H1 F1 n1)
    (hwf : ∀ o ∈ ops, o.x.length ≤ 1048576 ∧ o.y.length ≤ 1048576) :
    Calls Tryd.prog 4 #[.slice Ad N cO] w (PlayRet w N an H1 F1) := by
  obtain ⟨ti, hti, t0, t1, t2⟩ := info_parts err_info
  obtain ⟨tj, htj, j0, j1, j2⟩ := info_parts leaf_info
  have hmm := @run_makeMap Tryd.prog
  have HR := Lib.hid hr
  have HL := Lib.hid hl
  have HW := Lib.hid hwf
  have HF : Hid (∃ es', Plays H0 F0 1 ((ops.drop 0).map TOp.op) es' H1 F1 n1 ∧ an = [] ++ es') := Lib.hid ⟨an, hp, rfl⟩
  have S0 := ((Sep.nil_ w).newMap Tryd.prog 9 Value.string (fun v : Value => v)).new 35 [.bool true]
  have e1 : (w.alloc (.map #[] 0)).heap.size = w.heap.size + 1 := by simp
  rw [e1] at S0
  obtain ⟨w1, hst, _, K1⟩ := S0.store 0 rfl kstr (x := P []) (by show 1 ≤ maxLen; simp [maxLen]) Tryd.underlying37 (by simp [maxLen]) (.pointer (some ⟨w.heap.size + 1, 0, none⟩))
  have S1 : Hid (Sep w w1 (SL w.heap.size 1 (mup mno (P []) (nv (fun _ => w.heap.size + 1) 0)) [eR none 0 0 []] (fun _ => w.heap.size + 1) F0 1)) := Lib.hid ((K1.nilRow 28 1 none).pick [0, 2, 1] (by decide) (by simp))
  have hst' : (Instr.mapUpdate 37 (.map (some w.heap.size)) (.string ⟨#[47]⟩) (.pointer (some ⟨w.heap.size + 1, 0, none⟩))).run Tryd.prog ((w.alloc (.map #[] 0)).alloc (.cells #[.bool true] 35)) = .ok () w1 := hst
  clear hr hl hp hwf S0 K1 hst e1
  go_enter Tryd.func4, Tryd.ntmps4
  go_wp2
  clear hst'
  generalize w.heap.size = gt at S1 ⊢
  generalize (fun _ : Nat => gt + 1) = G0 at S1
  go_loopg [5, 20] N (fun q v5 i wr => ∃ (k : Nat) (A5 : Option Addr) (c5 : Nat) (n : Nat) (h : ByteArray → Option Value) (G : Nat → Nat) (F : Nat → Bool) (nn : Nat) (H : Tree) (es : List Int), k ≤ N ∧ q = N - k ∧ i = .int .i64 (k : Int) ∧ v5 = .slice A5 k c5 ∧ Hid (es.length = k) ∧ n ≤ k + 1 ∧
    Hid (Tab H (nv G) h) ∧ Hid (TI H F nn) ∧ Hid (∀ m a, H m = some a → (ppath m).length ≤ (k + 1) * 1048577) ∧ Hid (∃ es', Plays H F nn ((ops.drop k).map TOp.op) es' H1 F1 n1 ∧ an = es ++ es') ∧ Sep w wr (SL gt n h [eR A5 k c5 es] G F nn))
  case atStart => exact ⟨0, none, 0, 1, _, G0, F0, 1, H0, [], Nat.zero_le _, rfl, rfl, rfl, Lib.hid rfl, Nat.le_refl _, Lib.hid (tab0 (nv G0)), Lib.hid ti0, Lib.hid (fun m a hm => by
      unfold H0 at hm
      split at hm
      · next e => rw [e]; show 1 ≤ _; omega
      · cases hm), HF, S1.out⟩
  case round =>
    clear HF S1 hmm
    obtain ⟨k, A5, c5, n, h, G, F, nn, H, es, hk, rfl, rfl, rfl, HEL, hnk, HT, HI, HK, HF, hs⟩ := hrel
    have HS := Lib.hid hs
    clear hs
    by_cases hlt : k < N
    · obtain ⟨b, off, rfl, hb, hc⟩ := HR.out.at_ TOp.len (by omega)
      obtain ⟨o, ho⟩ : ∃ o, ops[k]? = some o := ⟨_, List.getElem?_eq_getElem (by rw [HL.out]; exact hlt)⟩
      have hbel := HS.out.below
      have q0 : wr.cell? ⟨b, off + k * 3, none⟩ = some (.int .i64 o.kind) := (hbel.cell hb).trans (hc k 0 o _ ho rfl)
      have q1 : wr.cell? ⟨b, off + k * 3 + 1, none⟩ = some (.string (bs o.x)) := (hbel.cell hb).trans (hc k 1 o _ ho rfl)
      have q2 : wr.cell? ⟨b, off + k * 3 + 2, none⟩ = some (.string (bs o.y)) := (hbel.cell hb).trans (hc k 2 o _ ho rfl)
      have i0 : (0 : Int) ≤ (k : Int) := by omega
      have i1 : (k : Int) < (N : Int) := by omega
      have HWF := Lib.hid (HW.out o (List.mem_of_getElem? ho))
      obtain ⟨er, H2, F2, n2, es1, HWAY, HP2, HAS⟩ : ∃ er H2 F2 n2 es1, Hid (Way H F nn o.op er H2 F2 n2) ∧ Hid (Plays H2 F2 n2 ((ops.drop (k + 1)).map TOp.op) es1 H1 F1 n1) ∧ Hid (an = (es ++ [er]) ++ es1) := by
        obtain ⟨es', h1, h2⟩ := HF.out
        obtain ⟨er, as', H2, F2, n2, rfl, hw, ht⟩ := plays_next h1 ho
        exact ⟨_, _, _, _, _, Lib.hid hw, Lib.hid ht, Lib.hid (by rw [h2]; simp)⟩
      have HEL2 : Hid ((es ++ [er]).length = k + 1) := Lib.hid (by rw [List.length_append, HEL.out]; rfl)
      have HI2 : Hid (TI H2 F2 n2) := Lib.hid (way_ok HI.out (cl_parts _) (cl_parts _) HWAY.out).1
      have HK2 : Hid (∀ m a, H2 m = some a → (ppath m).length ≤ (k + 1 + 1) * 1048577) := Lib.hid (fun m a hm => by
        have := way_long (K := (k + 1) * 1048577) HWAY.out (clean_len o.x HWF.out.1) (clean_len o.y HWF.out.2) (fun _ _ => Nat.le_trans (by decide) (Nat.le_mul_of_pos_left 1048577 (Nat.succ_pos k))) HK.out m a hm
        rw [Nat.succ_mul (k + 1) 1048577]
        exact this)
      have HS2 : Hid (Sep w (wr.alloc (.cells #[.int .i64 o.kind, .string (bs o.x), .string (bs o.y)] 39)) (SL gt n h [eR A5 k c5 es] G F nn) ∧ Blk (wr.alloc (.cells #[.int .i64 o.kind, .string (bs o.x), .string (bs o.y)] 39)) wr.heap.size 39 o.cells) := Lib.hid ⟨HS.out.alloc _, Blk.new wr _ _⟩
      have hKb : (k + 1) * 1048577 ≤ 9223372036850000000 := by omega
      clear hc ho HF hbel
      go_upto_region 6 with (fail)
      clear HS q0 q1 q2
      generalize wr.alloc (.cells #[.int .i64 o.kind, .string (bs o.x), .string (bs o.y)] 39) = wo at HS2 ⊢
      generalize wr.heap.size = gx at HS2 ⊢
      have p0 := HS2.out.2.cell (k := 0) rfl
      have p1 := HS2.out.2.cell (k := 1) rfl
      have p2 := HS2.out.2.cell (k := 2) rfl
      have cD := Lib.hid (step_any w wo [eR A5 k c5 es] gt n h G F nn H o.kind o.x o.y ((k + 1) * 1048577) er H2 F2 n2 HS2.out.1 HT.out HI.out HWF.out.1 HWF.out.2 (by omega) HK.out hKb HWAY.out)
      go_wp2_with fail
      refine cD.out.mono ?_; rintro en w1 ⟨rfl, n', h', G', hn', HT', hs1⟩
      have HT2 := Lib.hid HT'
      have HH := Lib.hid hs1
      have hnew := Lib.hid (Rd.of_own (own_new w1 28 #[.int .i64 er] 1 1 rfl (by simp [maxLen]) (Nat.le_refl _)))
      clear hs1 HT' cD p0 p1 p2 HS2 HT HI HK HWAY hKb
      go_wp2_with (at_builtin; refine wpList_append_sep (HH.out.alloc _) 1 rfl (.tmp 24) (.tmp 28) 23 rfl 28 ti (.int .i64 0) 1 8 Tryd.underlying23 hti t0 t1 t2 rfl (by omega) _ k _ rfl rfl _ _ 1 1 _ rfl hnew.out (by simp [Value.oneCell']) (by simp only [maxLen]; omega) (by omega) ?_; intro A6 c6 w6 hc6 hs6 H6'; have H6 := Lib.hid H6'; clear H6' hs6)
      go_roundg (N - (k + 1))
      case measure => omega
      case rel => exact ⟨k + 1, A6, c6, n', h', G', F2, n2, H2, es ++ [er], by omega, rfl, by go_num, rfl, HEL2, by omega, HT2, HI2, HK2, Lib.hid ⟨es1, HP2.out, HAS.out⟩, by
        have h := H6.out
        unfold eR
        rw [List.flatMap_append]
        exact h⟩
    · obtain rfl : k = N := by omega
      obtain ⟨es', h1, h2⟩ := HF.out
      obtain ⟨rfl, rfl, rfl, rfl⟩ := plays_end h1 (by rw [HL.out]; exact Nat.le_refl _)
      rw [List.append_nil] at h2
      have HAN := Lib.hid h2
      clear h1 h2 HF hlt
      have hkc : k ≤ c5 := by
        obtain ⟨A', c', e, h⟩ := (HS.out.rowHas 1 rfl).slice
        cases e
        exact h
      have HGI : Hid (∀ a b, a < n1 → b < n1 → G a = G b → a = b) := Lib.hid (fun a b ha hb e => SL_inj HS.out ha hb e)
      have hmm := @run_makeMap Tryd.prog
      obtain ⟨es2, clock, M, H2⟩ := (Tr.Sep.newMap_links HS.out G n1).mapOpen 0 rfl
      obtain ⟨B, hB⟩ : ∃ B : List It, B = .obj gt (.map es2 clock) :: ([eR A5 k c5 es] ++ nodes G F1 n1) := ⟨_, rfl⟩
      have H2' : Sep w (wr.alloc (.map #[] 0)) (B ++ [lm G n1 wr.heap.size 0 mno]) := by rw [hB]; exact H2
      have hB0 : B[0]? = some (.obj gt (.map es2 clock)) := by rw [hB]; rfl
      have hBn : ∀ a, a < n1 → B[1 + a + 1]? = some (nC G F1 a) := fun a ha => by rw [hB]; exact cons_node (X := [eR A5 k c5 es]) ha
      obtain ⟨hrun, H3, todo0, R0, htl, hmem⟩ := H2'.rangeStart 0 (atI hB0) M kstr Tryd.underlying37
      have hsz1 : (wr.alloc (.map #[] 0)).heap.size = wr.heap.size + 1 := by simp
      rw [hsz1] at hrun H3
      have HBK : Hid (∀ (w' : World) (X Y : It), Sep w w' (B ++ [X, Y]) → Sep w w' (SL gt n h [eR A5 k c5 es] G F1 n1 ++ [X])) := Lib.hid (fun w' X Y K => by
        have K2 := (K.sub (List.Sublist.append_left (List.Sublist.cons_cons _ (List.nil_sublist _)) _ : (B ++ [X]).Sublist (B ++ [X, Y]))).mapShut 0 (atI hB0) M
        rw [hB] at K2
        exact K2)
      have HLN0 : Hid (LinkR H1 G n1 todo0 mno n) := Lib.hid (by rw [← htl]; exact link_start HT.out HI.out.clean hmem)
      have HS0 : Hid (Sep w ((wr.alloc (.map #[] 0)).alloc (.mapIter (some gt) clock #[] clock)) (B ++ [lm G n1 wr.heap.size 0 mno, .obj (wr.heap.size + 1) (.mapIter (some gt) clock #[] clock)])) := Lib.hid (by
        have h := H3
        rw [List.append_assoc] at h
        exact h)
      have HM := Lib.hid M
      have HR0 := Lib.hid R0
      have HB0 := Lib.hid hB0
      have HBN := Lib.hid hBn
      have hBl : 0 < B.length := by rw [hB]; simp
      have HTJ := Lib.hid (And.intro htj (And.intro j0 (And.intro j1 j2)))
      clear HS H2 H2' H3 M R0 hB hB0 hBn hmem hsz1 HL HW HR hti t0 t1 t2 HEL HK
      go_wp2
      clear hrun hmm
      generalize (wr.alloc (.map #[] 0)).alloc (.mapIter (some gt) clock #[] clock) = wo at HS0 ⊢
      generalize wr.heap.size + 1 = r1 at HS0 ⊢
      generalize wr.heap.size = gl at HS0 ⊢
      go_loopg [] todo0.length (fun q wl => ∃ (todo : List ByteArray) (seen : Array Nat) (c0 nl : Nat) (hl : Nat → Option Int), q = todo.length ∧ Hid (Rg Value.string es2 clock clock seen c0 todo) ∧ nl + todo.length ≤ n ∧ Hid (LinkR H1 G n1 todo hl n) ∧ Sep w wl (B ++ [lm G n1 gl nl hl, .obj r1 (.mapIter (some gt) clock seen c0)]))
      case atStart => exact ⟨todo0, #[], clock, 0, mno, rfl, HR0, by omega, HLN0, HS0.out⟩
      case round =>
        clear HS0 HR0 HLN0 wo htl
        obtain ⟨todo, seen, c0, nl, hl, rfl, HRG, hnl, HLN, hs⟩ := hrel
        have HS := Lib.hid hs
        clear hs
        rcases HS.out.rangeNext2 0 (B.length + 1) (by omega) (atI HB0.out) at1 HM.out kstr HRG.out 0 with ⟨rfl, hrun⟩ | ⟨x, v, w2, seen', todo', hx, hxa, hrun, hsz2, H2, R2, hen, hlen, hme⟩
        · have HSB : Hid (Sep w wr (SL gt n h [eR A5 k c5 es] G F1 n1 ++ [lm G n1 gl nl hl])) := Lib.hid (HBK.out _ _ _ HS.out)
          have HCN : Hid (∀ a, a < n1 → Cnt H1 a ((hl (G a)).getD 0)) := Lib.hid (fun a ha => link_end HLN.out ha)
          clear HS HRG HM HBK HLN
          go_upto_region 14 with (fail)
          clear hrun
          have cK := Lib.hid (keys_any gt wr)
          have cS := Lib.hid (sorted_any w wr _ 0 gt n h HSB.out rfl (by omega))
          go_wp2_with fail
          refine cK.out.mono ?_; rintro en w3 ⟨rfl, rfl⟩
          go_wp2_with fail
          refine cS.out.mono ?_; rintro en w4 ⟨AS, cs, S, rfl, HSS, hs4⟩
          obtain ⟨LB, hLB⟩ : ∃ LB : List It, LB = SL gt n h [eR A5 k c5 es] G F1 n1 ++ [lm G n1 gl nl hl] ++ [.row 9 1 (.slice AS n cs) n (S.flatMap kc)] := ⟨_, rfl⟩
          have hL0 : LB[0]? = some (tm gt n h) := by rw [hLB]; rfl
          have hL1 : LB[1]? = some (eR A5 k c5 es) := by rw [hLB]; rfl
          have hLl : LB[(SL gt n h [eR A5 k c5 es] G F1 n1).length]? = some (lm G n1 gl nl hl) := by rw [hLB]; exact mid_at
          have hLs : LB[(SL gt n h [eR A5 k c5 es] G F1 n1).length + 1]? = some (.row 9 1 (.slice AS n cs) n (S.flatMap kc)) := by rw [hLB]; exact mid_last
          have hLn : ∀ a, a < n1 → LB[1 + a + 1]? = some (nC G F1 a) := fun a ha => by rw [hLB]; exact atI (atI (cons_node (X := [eR A5 k c5 es]) ha))
          have HS4 : Hid (Sep w w4 (LB ++ [lR none 0 0 []])) := Lib.hid (by
            rw [hLB]
            exact hs4.nilRow 31 3 none)
          have HL0 := Lib.hid hL0
          have HL1 := Lib.hid hL1
          have HLL0 := Lib.hid hLl
          have HLS := Lib.hid hLs
          have HLN := Lib.hid hLn
          generalize (SL gt n h [eR A5 k c5 es] G F1 n1).length = il at HLL0 HLS
          clear hs4 cK cS HSB hLB hL0 hL1 hLl hLs hLn hnl
          go_wp2
          go_loopg [11, 46] n (fun q v11 i wl => ∃ (j p : Nat) (A11 : Option Addr) (c11 : Nat) (out : List Lf), j ≤ n ∧ q = n - j ∧ i = .int .i64 (j : Int) ∧ v11 = .slice A11 p c11 ∧ p ≤ j ∧ Hid (out.length = p) ∧ Hid (LeafPart H1 F1 (S.take j) out) ∧ Sep w wl (LB ++ [lR A11 p c11 out]))
          case atStart => exact ⟨0, 0, none, 0, [], Nat.zero_le _, rfl, rfl, rfl, Nat.le_refl _, Lib.hid rfl, Lib.hid (leaf_start H1 F1), HS4.out⟩
          case round =>
            clear HS4
            obtain ⟨j, p, A11, c11, out, hj, rfl, rfl, rfl, hpj, HOL, HLP, hs⟩ := hrel
            have HS := Lib.hid hs
            clear hs
            by_cases hlt : j < n
            · obtain ⟨b, off, hAS, hb, hc⟩ := (HS.out.rd (il + 1) (atI HLS.out)).at_ kc_len (by omega)
              subst hAS
              obtain ⟨x, hx⟩ : ∃ x, S[j]? = some x := ⟨_, List.getElem?_eq_getElem (by rw [HSS.out.1]; exact hlt)⟩
              have q0 : wr.cell? ⟨b, off + j, none⟩ = some (.string x) := by simpa using hc j 0 x _ hx rfl
              have hxs : (h x).isSome = true := (HSS.out.2.2 x).1 (List.mem_of_getElem? hx)
              obtain ⟨v, hv⟩ := Option.isSome_iff_exists.1 hxs
              obtain ⟨l, a, hlc, hHl, rfl, rfl⟩ := tab_key HT.out hv
              have i0 : (0 : Int) ≤ (j : Int) := by omega
              have i1 : (j : Int) < (n : Int) := by omega
              have HTK := Lib.hid (take_next hx)
              have HLT : Hid (∀ y ∈ S.take j, ltN y (P l) = true) := Lib.hid (fun y hy => by
                obtain ⟨i, hi, he⟩ := List.getElem_of_mem hy
                rw [List.length_take] at hi
                rw [List.getElem_take] at he
                obtain ⟨h3, h4⟩ := List.getElem?_eq_some_iff.1 hx
                have := List.pairwise_iff_getElem.1 HSS.out.2.1 i j (by omega) h3 (by omega)
                rw [he, h4] at this
                exact this)
              have HHL := Lib.hid hHl
              by_cases hl0 : l = []
              · subst hl0
                have z1 := P_root
                have HLP2 : Hid (LeafPart H1 F1 (S.take (j + 1)) out) := Lib.hid (by rw [HTK.out]; exact leaf_root HI.out.clean HLP.out)
                clear hc hx hxs hv HTK HLT hlc hHl HHL
                go_wp2
                go_roundg (n - (j + 1))
                case measure => omega
                case rel => exact ⟨j + 1, p, A11, c11, out, by omega, rfl, by go_num, rfl, by omega, HOL, HLP2, HS.out⟩
              · have z1 := P_notroot hlc hl0
                have hal := HI.out.low _ _ hHl
                obtain ⟨cnt, hcnt⟩ : ∃ cnt, (hl (G a)).getD 0 = cnt := ⟨_, rfl⟩
                have HLP2 : Hid (LeafPart H1 F1 (S.take (j + 1)) (out ++ [⟨P l, F1 a, cnt⟩])) := Lib.hid (by
                  rw [HTK.out, ← hcnt]
                  exact leaf_next HI.out.clean HLP.out HLT.out hl0 hHl (HCN.out a hal))
                have HOL2 : Hid ((out ++ [(⟨P l, F1 a, cnt⟩ : Lf)]).length = p + 1) := Lib.hid (by rw [List.length_append, HOL.out]; rfl)
                have HKS : Hid ((P l).size ≤ maxLen) := Lib.hid (sep_key HS.out 0 (atI HL0.out) hxs)
                have HLK : Hid (∀ W, Sep w W (LB ++ [lR A11 p c11 out]) → (Instr.lookup 37 (.map (some gt)) (.string (P l)) false).run Tryd.prog W = .ok (.pointer (some ⟨G a, 0, none⟩)) W) := Lib.hid (fun W hW => by
                  have h := hW.look 0 (atI HL0.out) kstr HKS.out Tryd.underlying37 (szp W)
                  rw [hv] at h
                  exact h)
                have HND : Hid (∀ W, Sep w W (LB ++ [lR A11 p c11 out]) → W.cell? ⟨G a, 0, none⟩ = some (.bool (F1 a))) := Lib.hid (fun W hW => hW.cell _ (atI (HLN.out a hal)) (k := 0) rfl)
                have HLL : Hid (∀ W, Sep w W (LB ++ [lR A11 p c11 out]) → (Instr.lookup 41 (.map (some gl)) (.pointer (some ⟨G a, 0, none⟩)) false).run Tryd.prog W = .ok (.int .i64 cnt) W) := Lib.hid (fun W hW => by
                  have h := Pm.Sep.look hW il (atI HLL0.out) (kptr G n1) (live_of hW (fun a ha => ⟨_, atI (HLN.out a ha)⟩)) (x := G a) ⟨a, hal, rfl⟩ Tryd.underlying41 (szi W)
                  rw [elim_getD, hcnt] at h
                  exact h)
                have hpb : p ≤ 2932031007403 := by omega
                clear hc hx hxs hv HTK HLT hlc hHl HHL hl0 hal hcnt HKS
                go_upto_region 18 with (fail)
                refine wp_region_inv0 (fun ac0 L ac w' => ∃ x11 x52 x53 x54 x55 x56 x57 x58 x59 x60 x61 x62 x63 x64 x65 x66 x67, ac = turn ac0 [(11, x11), (52, x52), (53, x53), (54, x54), (55, x55), (56, x56), (57, x57), (58, x58), (59, x59), (60, x60), (61, x61), (62, x62), (63, x63), (64, x64), (65, x65), (66, x66), (67, x67)] ∧ (L 0 = true → x52 = .slice A11 p c11) ∧ (L 1 = true → x53 = .string (P l)) ∧ (L 2 = true → x54 = .map (some gt)) ∧ (L 3 = true → x55 = .string (P l)) ∧ (L 4 = true → x56 = .pointer (some ⟨G a, 0, none⟩)) ∧ (L 5 = true → x57 = .pointer (some ⟨G a, 0, none⟩)) ∧ (L 6 = true → x58 = .pointer (some ⟨G a, 0, none⟩)) ∧ (L 7 = true → x59 = .bool (F1 a)) ∧ (L 8 = true → x60 = .map (some gl)) ∧ (L 9 = true → x61 = .map (some gt)) ∧ (L 10 = true → x62 = .string (P l)) ∧ (L 11 = true → x63 = .pointer (some ⟨G a, 0, none⟩)) ∧ (L 12 = true → x64 = .int .i64 cnt) ∧ (L 13 = true → x65 = .agg #[.string (P l), .bool (F1 a), .int .i64 cnt]) ∧ (L 16 = true → x11 = x67) ∧ (L 4 = true → L 2 = true ∧ L 3 = true) ∧ (L 5 = true → L 4 = true) ∧ (L 6 = true → L 5 = true) ∧ (L 7 = true → L 6 = true) ∧ (L 11 = true → L 9 = true ∧ L 10 = true) ∧ (L 12 = true → L 8 = true ∧ L 11 = true) ∧ (L 13 = true → L 1 = true ∧ L 7 = true ∧ L 12 = true) ∧ (L 14 = true → L 13 = true) ∧ (L 15 = true → L 0 = true ∧ L 14 = true) ∧ (L 16 = true → L 0 = true ∧ L 1 = true ∧ L 2 = true ∧ L 3 = true ∧ L 4 = true ∧ L 5 = true ∧ L 6 = true ∧ L 7 = true ∧ L 8 = true ∧ L 9 = true ∧ L 10 = true ∧ L 11 = true ∧ L 12 = true ∧ L 13 = true ∧ L 14 = true ∧ L 15 = true) ∧ (L 16 = false → x11 = .slice A11 p c11) ∧ (if L 15 = true then (∃ A' c', x67 = .slice A' (p + 1) c' ∧ p + 1 ≤ c' ∧ Sep w w' (LB ++ [.row 31 3 (.slice A' (p + 1) c') (p + 1) (out.flatMap Lf.cells ++ [.string (P l), .bool (F1 a), .int .i64 cnt])])) else (if L 14 = true then (∃ gv, x66 = .slice (some ⟨gv, 0, none⟩) 1 1 ∧ Sep w w' (LB ++ [lR A11 p c11 out] ++ [.cells gv 31 [.string (P l), .bool (F1 a), .int .i64 cnt]])) else Sep w w' (LB ++ [lR A11 p c11 out])))) rfl (by kernel_rfl) ?_ ?_ ?_
                · simp only [turn, List.foldl_cons, List.foldl_nil, List.setIfInBounds_toArray, List.set_cons_succ, List.set_cons_zero]
                  exact ⟨_, _, _, _, _, _, _, _, _, _, _, _, _, _, _, _, _, rfl, (fun h => absurd h (by decide)), (fun h => absurd h (by decide)), (fun h => absurd h (by decide)), (fun h => absurd h (by decide)), (fun h => absurd h (by decide)), (fun h => absurd h (by decide)), (fun h => absurd h (by decide)), (fun h => absurd h (by decide)), (fun h => absurd h (by decide)), (fun h => absurd h (by decide)), (fun h => absurd h (by decide)), (fun h => absurd h (by decide)), (fun h => absurd h (by decide)), (fun h => absurd h (by decide)), (fun h => absurd h (by decide)), (fun h => absurd h (by decide)), (fun h => absurd h (by decide)), (fun h => absurd h (by decide)), (fun h => absurd h (by decide)), (fun h => absurd h (by decide)), (fun h => absurd h (by decide)), (fun h => absurd h (by decide)), (fun h => absurd h (by decide)), (fun h => absurd h (by decide)), (fun h => absurd h (by decide)), (fun _ => rfl), by simpa using HS.out.drew⟩
                · rintro L ac w' i o ⟨x11, x52, x53, x54, x55, x56, x57, x58, x59, x60, x61, x62, x63, x64, x65, x66, x67, ha, p0, p1, p2, p3, p4, p5, p6, p7, p8, p9, p10, p11, p12, p13, p16, q4, q5, q6, q7, q11, q12, q13, q14, q15, q16, n16, hS⟩ ho hi he
                  simp only [turn, List.foldl_cons, List.foldl_nil, List.setIfInBounds_toArray, List.set_cons_succ, List.set_cons_zero] at ha ⊢
                  subst ha
                  rcases i with _|_|_|_|_|_|_|_|_|_|_|_|_|_|_|_|_|i
                  all_goals cases ho
                  all_goals simp [Region.binds] at he
                  · have h15 : L 15 = false := by cases hh : L 15 with | false => rfl | true => (have hq := q15 hh; simp [hi] at hq)
                    have h16 : L 16 = false := by cases hh : L 16 with | false => rfl | true => (have hq := q16 hh; simp [hi] at hq)
                    obtain rfl := n16 h16
                    refine wpOp_step rfl (fun K hK => ?_)
                    go_simp
                    exact hK _ _ ⟨_, _, _, _, _, _, _, _, _, _, _, _, _, _, _, _, _, rfl, (fun _ => rfl), (by first | exact p1 | exact fun _ => rfl), (by first | exact p2 | exact fun _ => rfl), (by first | exact p3 | exact fun _ => rfl), (by first | exact p4 | exact fun _ => rfl), (by first | exact p5 | exact fun _ => rfl), (by first | exact p6 | exact fun _ => rfl), (by first | exact p7 | exact fun _ => rfl), (by first | exact p8 | exact fun _ => rfl), (by first | exact p9 | exact fun _ => rfl), (by first | exact p10 | exact fun _ => rfl), (by first | exact p11 | exact fun _ => rfl), (by first | exact p12 | exact fun _ => rfl), (by first | exact p13 | exact fun _ => rfl), (by simp [h16]), (by simpa using q4), (by simpa using q5), (by simpa using q6), (by simpa using q7), (by simpa using q11), (by simpa using q12), (by simpa using q13), (by simpa using q14), (by simp [h15]), (by simp [h16]), (by first | exact fun _ => rfl | exact n16), (by simpa [h15, h16] using hS)⟩
                  · have h13 : L 13 = false := by cases hh : L 13 with | false => rfl | true => (have hq := q13 hh; simp [hi] at hq)
                    have h16 : L 16 = false := by cases hh : L 16 with | false => rfl | true => (have hq := q16 hh; simp [hi] at hq)
                    have h14 : L 14 = false := by cases hh : L 14 with | false => rfl | true => (have hq := q14 hh; simp [h13] at hq)
                    have h15 : L 15 = false := by cases hh : L 15 with | false => rfl | true => (have hq := q15 hh; simp [h14] at hq)
                    refine wpOp_step rfl (fun K hK => ?_)
                    go_simp
                    exact hK _ _ ⟨_, _, _, _, _, _, _, _, _, _, _, _, _, _, _, _, _, rfl, (by first | exact p0 | exact fun _ => rfl), (fun _ => rfl), (by first | exact p2 | exact fun _ => rfl), (by first | exact p3 | exact fun _ => rfl), (by first | exact p4 | exact fun _ => rfl), (by first | exact p5 | exact fun _ => rfl), (by first | exact p6 | exact fun _ => rfl), (by first | exact p7 | exact fun _ => rfl), (by first | exact p8 | exact fun _ => rfl), (by first | exact p9 | exact fun _ => rfl), (by first | exact p10 | exact fun _ => rfl), (by first | exact p11 | exact fun _ => rfl), (by first | exact p12 | exact fun _ => rfl), (by simp [h13]), (by simp [h16]), (by simpa using q4), (by simpa using q5), (by simpa using q6), (by simpa using q7), (by simpa using q11), (by simpa using q12), (by simp [h13]), (by simp [h14]), (by simp [h15]), (by simp [h16]), (by first | exact fun _ => rfl | exact n16), (by simpa [h13, h16, h14, h15] using hS)⟩
                  · have h4 : L 4 = false := by cases hh : L 4 with | false => rfl | true => (have hq := q4 hh; simp [hi] at hq)
                    have h16 : L 16 = false := by cases hh : L 16 with | false => rfl | true => (have hq := q16 hh; simp [hi] at hq)
                    have h5 : L 5 = false := by cases hh : L 5 with | false => rfl | true => (have hq := q5 hh; simp [h4] at hq)
                    have h6 : L 6 = false := by cases hh : L 6 with | false => rfl | true => (have hq := q6 hh; simp [h5] at hq)
                    have h7 : L 7 = false := by cases hh : L 7 with | false => rfl | true => (have hq := q7 hh; simp [h6] at hq)
                    have h13 : L 13 = false := by cases hh : L 13 with | false => rfl | true => (have hq := q13 hh; simp [h7] at hq)
                    have h14 : L 14 = false := by cases hh : L 14 with | false => rfl | true => (have hq := q14 hh; simp [h13] at hq)
                    have h15 : L 15 = false := by cases hh : L 15 with | false => rfl | true => (have hq := q15 hh; simp [h14] at hq)
                    refine wpOp_step rfl (fun K hK => ?_)
                    go_simp
                    exact hK _ _ ⟨_, _, _, _, _, _, _, _, _, _, _, _, _, _, _, _, _, rfl, (by first | exact p0 | exact fun _ => rfl), (by first | exact p1 | exact fun _ => rfl), (fun _ => rfl), (by first | exact p3 | exact fun _ => rfl), (by simp [h4]), (by simp [h5]), (by simp [h6]), (by simp [h7]), (by first | exact p8 | exact fun _ => rfl), (by first | exact p9 | exact fun _ => rfl), (by first | exact p10 | exact fun _ => rfl), (by first | exact p11 | exact fun _ => rfl), (by first | exact p12 | exact fun _ => rfl), (by simp [h13]), (by simp [h16]), (by simp [h4]), (by simp [h5]), (by simp [h6]), (by simp [h7]), (by simpa using q11), (by simpa using q12), (by simp [h13]), (by simp [h14]), (by simp [h15]), (by simp [h16]), (by first | exact fun _ => rfl | exact n16), (by simpa [h4, h16, h5, h6, h7, h13, h14, h15] using hS)⟩
                  · have h4 : L 4 = false := by cases hh : L 4 with | false => rfl | true => (have hq := q4 hh; simp [hi] at hq)
                    have h16 : L 16 = false := by cases hh : L 16 with | false => rfl | true => (have hq := q16 hh; simp [hi] at hq)
                    have h5 : L 5 = false := by cases hh : L 5 with | false => rfl | true => (have hq := q5 hh; simp [h4] at hq)
                    have h6 : L 6 = false := by cases hh : L 6 with | false => rfl | true => (have hq := q6 hh; simp [h5] at hq)
                    have h7 : L 7 = false := by cases hh : L 7 with | false => rfl | true => (have hq := q7 hh; simp [h6] at hq)
                    have h13 : L 13 = false := by cases hh : L 13 with | false => rfl | true => (have hq := q13 hh; simp [h7] at hq)
                    have h14 : L 14 = false := by cases hh : L 14 with | false => rfl | true => (have hq := q14 hh; simp [h13] at hq)
                    have h15 : L 15 = false := by cases hh : L 15 with | false => rfl | true => (have hq := q15 hh; simp [h14] at hq)
                    refine wpOp_step rfl (fun K hK => ?_)
                    go_simp
                    exact hK _ _ ⟨_, _, _, _, _, _, _, _, _, _, _, _, _, _, _, _, _, rfl, (by first | exact p0 | exact fun _ => rfl), (by first | exact p1 | exact fun _ => rfl), (by first | exact p2 | exact fun _ => rfl), (fun _ => rfl), (by simp [h4]), (by simp [h5]), (by simp [h6]), (by simp [h7]), (by first | exact p8 | exact fun _ => rfl), (by first | exact p9 | exact fun _ => rfl), (by first | exact p10 | exact fun _ => rfl), (by first | exact p11 | exact fun _ => rfl), (by first | exact p12 | exact fun _ => rfl), (by simp [h13]), (by simp [h16]), (by simp [h4]), (by simp [h5]), (by simp [h6]), (by simp [h7]), (by simpa using q11), (by simpa using q12), (by simp [h13]), (by simp [h14]), (by simp [h15]), (by simp [h16]), (by first | exact fun _ => rfl | exact n16), (by simpa [h4, h16, h5, h6, h7, h13, h14, h15] using hS)⟩
                  · have h5 : L 5 = false := by cases hh : L 5 with | false => rfl | true => (have hq := q5 hh; simp [hi] at hq)
                    have h16 : L 16 = false := by cases hh : L 16 with | false => rfl | true => (have hq := q16 hh; simp [hi] at hq)
                    have h6 : L 6 = false := by cases hh : L 6 with | false => rfl | true => (have hq := q6 hh; simp [h5] at hq)
                    have h7 : L 7 = false := by cases hh : L 7 with | false => rfl | true => (have hq := q7 hh; simp [h6] at hq)
                    have h13 : L 13 = false := by cases hh : L 13 with | false => rfl | true => (have hq := q13 hh; simp [h7] at hq)
                    have h14 : L 14 = false := by cases hh : L 14 with | false => rfl | true => (have hq := q14 hh; simp [h13] at hq)
                    have h15 : L 15 = false := by cases hh : L 15 with | false => rfl | true => (have hq := q15 hh; simp [h14] at hq)
                    obtain rfl := p2 (by simp [he])
                    obtain rfl := p3 (by simp [he])
                    have l1 := HLK.out w' (by rw [if_neg (by simp [h15]), if_neg (by simp [h14])] at hS; exact hS)
                    refine wpOp_step rfl (fun K hK => ?_)
                    go_simp
                    exact hK _ _ ⟨_, _, _, _, _, _, _, _, _, _, _, _, _, _, _, _, _, rfl, (by first | exact p0 | exact fun _ => rfl), (by first | exact p1 | exact fun _ => rfl), (by first | exact p2 | exact fun _ => rfl), (by first | exact p3 | exact fun _ => rfl), (fun _ => rfl), (by simp [h5]), (by simp [h6]), (by simp [h7]), (by first | exact p8 | exact fun _ => rfl), (by first | exact p9 | exact fun _ => rfl), (by first | exact p10 | exact fun _ => rfl), (by first | exact p11 | exact fun _ => rfl), (by first | exact p12 | exact fun _ => rfl), (by simp [h13]), (by simp [h16]), (by simp [he]), (by simp [h5]), (by simp [h6]), (by simp [h7]), (by simpa using q11), (by simpa using q12), (by simp [h13]), (by simp [h14]), (by simp [h15]), (by simp [h16]), (by first | exact fun _ => rfl | exact n16), (by simpa [h5, h16, h6, h7, h13, h14, h15] using hS)⟩
                  · have h6 : L 6 = false := by cases hh : L 6 with | false => rfl | true => (have hq := q6 hh; simp [hi] at hq)
                    have h16 : L 16 = false := by cases hh : L 16 with | false => rfl | true => (have hq := q16 hh; simp [hi] at hq)
                    have h7 : L 7 = false := by cases hh : L 7 with | false => rfl | true => (have hq := q7 hh; simp [h6] at hq)
                    have h13 : L 13 = false := by cases hh : L 13 with | false => rfl | true => (have hq := q13 hh; simp [h7] at hq)
                    have h14 : L 14 = false := by cases hh : L 14 with | false => rfl | true => (have hq := q14 hh; simp [h13] at hq)
                    have h15 : L 15 = false := by cases hh : L 15 with | false => rfl | true => (have hq := q15 hh; simp [h14] at hq)
                    obtain rfl := p4 (by simp [he])
                    refine wpOp_step rfl (fun K hK => ?_)
                    go_simp
                    exact hK _ _ ⟨_, _, _, _, _, _, _, _, _, _, _, _, _, _, _, _, _, rfl, (by first | exact p0 | exact fun _ => rfl), (by first | exact p1 | exact fun _ => rfl), (by first | exact p2 | exact fun _ => rfl), (by first | exact p3 | exact fun _ => rfl), (by first | exact p4 | exact fun _ => rfl), (fun _ => rfl), (by simp [h6]), (by simp [h7]), (by first | exact p8 | exact fun _ => rfl), (by first | exact p9 | exact fun _ => rfl), (by first | exact p10 | exact fun _ => rfl), (by first | exact p11 | exact fun _ => rfl), (by first | exact p12 | exact fun _ => rfl), (by simp [h13]), (by simp [h16]), (by simpa using q4), (by simp [he]), (by simp [h6]), (by simp [h7]), (by simpa using q11), (by simpa using q12), (by simp [h13]), (by simp [h14]), (by simp [h15]), (by simp [h16]), (by first | exact fun _ => rfl | exact n16), (by simpa [h6, h16, h7, h13, h14, h15] using hS)⟩
                  · have h7 : L 7 = false := by cases hh : L 7 with | false => rfl | true => (have hq := q7 hh; simp [hi] at hq)
                    have h16 : L 16 = false := by cases hh : L 16 with | false => rfl | true => (have hq := q16 hh; simp [hi] at hq)
                    have h13 : L 13 = false := by cases hh : L 13 with | false => rfl | true => (have hq := q13 hh; simp [h7] at hq)
                    have h14 : L 14 = false := by cases hh : L 14 with | false => rfl | true => (have hq := q14 hh; simp [h13] at hq)
                    have h15 : L 15 = false := by cases hh : L 15 with | false => rfl | true => (have hq := q15 hh; simp [h14] at hq)
                    obtain rfl := p5 (by simp [he])
                    refine wpOp_step rfl (fun K hK => ?_)
                    go_simp
                    exact hK _ _ ⟨_, _, _, _, _, _, _, _, _, _, _, _, _, _, _, _, _, rfl, (by first | exact p0 | exact fun _ => rfl), (by first | exact p1 | exact fun _ => rfl), (by first | exact p2 | exact fun _ => rfl), (by first | exact p3 | exact fun _ => rfl), (by first | exact p4 | exact fun _ => rfl), (by first | exact p5 | exact fun _ => rfl), (fun _ => rfl), (by simp [h7]), (by first | exact p8 | exact fun _ => rfl), (by first | exact p9 | exact fun _ => rfl), (by first | exact p10 | exact fun _ => rfl), (by first | exact p11 | exact fun _ => rfl), (by first | exact p12 | exact fun _ => rfl), (by simp [h13]), (by simp [h16]), (by simpa using q4), (by simpa using q5), (by simp [he]), (by simp [h7]), (by simpa using q11), (by simpa using q12), (by simp [h13]), (by simp [h14]), (by simp [h15]), (by simp [h16]), (by first | exact fun _ => rfl | exact n16), (by simpa [h7, h16, h13, h14, h15] using hS)⟩
                  · have h13 : L 13 = false := by cases hh : L 13 with | false => rfl | true => (have hq := q13 hh; simp [hi] at hq)
                    have h16 : L 16 = false := by cases hh : L 16 with | false => rfl | true => (have hq := q16 hh; simp [hi] at hq)
                    have h14 : L 14 = false := by cases hh : L 14 with | false => rfl | true => (have hq := q14 hh; simp [h13] at hq)
                    have h15 : L 15 = false := by cases hh : L 15 with | false => rfl | true => (have hq := q15 hh; simp [h14] at hq)
                    obtain rfl := p6 (by simp [he])
                    have d0 := HND.out w' (by rw [if_neg (by simp [h15]), if_neg (by simp [h14])] at hS; exact hS)
                    refine wpOp_step rfl (fun K hK => ?_)
                    go_simp
                    exact hK _ _ ⟨_, _, _, _, _, _, _, _, _, _, _, _, _, _, _, _, _, rfl, (by first | exact p0 | exact fun _ => rfl), (by first | exact p1 | exact fun _ => rfl), (by first | exact p2 | exact fun _ => rfl), (by first | exact p3 | exact fun _ => rfl), (by first | exact p4 | exact fun _ => rfl), (by first | exact p5 | exact fun _ => rfl), (by first | exact p6 | exact fun _ => rfl), (fun _ => rfl), (by first | exact p8 | exact fun _ => rfl), (by first | exact p9 | exact fun _ => rfl), (by first | exact p10 | exact fun _ => rfl), (by first | exact p11 | exact fun _ => rfl), (by first | exact p12 | exact fun _ => rfl), (by simp [h13]), (by simp [h16]), (by simpa using q4), (by simpa using q5), (by simpa using q6), (by simp [he]), (by simpa using q11), (by simpa using q12), (by simp [h13]), (by simp [h14]), (by simp [h15]), (by simp [h16]), (by first | exact fun _ => rfl | exact n16), (by simpa [h13, h16, h14, h15] using hS)⟩
                  · have h12 : L 12 = false := by cases hh : L 12 with | false => rfl | true => (have hq := q12 hh; simp [hi] at hq)
                    have h16 : L 16 = false := by cases hh : L 16 with | false => rfl | true => (have hq := q16 hh; simp [hi] at hq)
                    have h13 : L 13 = false := by cases hh : L 13 with | false => rfl | true => (have hq := q13 hh; simp [h12] at hq)
                    have h14 : L 14 = false := by cases hh : L 14 with | false => rfl | true => (have hq := q14 hh; simp [h13] at hq)
                    have h15 : L 15 = false := by cases hh : L 15 with | false => rfl | true => (have hq := q15 hh; simp [h14] at hq)
                    refine wpOp_step rfl (fun K hK => ?_)
                    go_simp
                    exact hK _ _ ⟨_, _, _, _, _, _, _, _, _, _, _, _, _, _, _, _, _, rfl, (by first | exact p0 | exact fun _ => rfl), (by first | exact p1 | exact fun _ => rfl), (by first | exact p2 | exact fun _ => rfl), (by first | exact p3 | exact fun _ => rfl), (by first | exact p4 | exact fun _ => rfl), (by first | exact p5 | exact fun _ => rfl), (by first | exact p6 | exact fun _ => rfl), (by first | exact p7 | exact fun _ => rfl), (fun _ => rfl), (by first | exact p9 | exact fun _ => rfl), (by first | exact p10 | exact fun _ => rfl), (by first | exact p11 | exact fun _ => rfl), (by simp [h12]), (by simp [h13]), (by simp [h16]), (by simpa using q4), (by simpa using q5), (by simpa using q6), (by simpa using q7), (by simpa using q11), (by simp [h12]), (by simp [h13]), (by simp [h14]), (by simp [h15]), (by simp [h16]), (by first | exact fun _ => rfl | exact n16), (by simpa [h12, h16, h13, h14, h15] using hS)⟩
                  · have h11 : L 11 = false := by cases hh : L 11 with | false => rfl | true => (have hq := q11 hh; simp [hi] at hq)
                    have h16 : L 16 = false := by cases hh : L 16 with | false => rfl | true => (have hq := q16 hh; simp [hi] at hq)
                    have h12 : L 12 = false := by cases hh : L 12 with | false => rfl | true => (have hq := q12 hh; simp [h11] at hq)
                    have h13 : L 13 = false := by cases hh : L 13 with | false => rfl | true => (have hq := q13 hh; simp [h12] at hq)
                    have h14 : L 14 = false := by cases hh : L 14 with | false => rfl | true => (have hq := q14 hh; simp [h13] at hq)
                    have h15 : L 15 = false := by cases hh : L 15 with | false => rfl | true => (have hq := q15 hh; simp [h14] at hq)
                    refine wpOp_step rfl (fun K hK => ?_)
                    go_simp
                    exact hK _ _ ⟨_, _, _, _, _, _, _, _, _, _, _, _, _, _, _, _, _, rfl, (by first | exact p0 | exact fun _ => rfl), (by first | exact p1 | exact fun _ => rfl), (by first | exact p2 | exact fun _ => rfl), (by first | exact p3 | exact fun _ => rfl), (by first | exact p4 | exact fun _ => rfl), (by first | exact p5 | exact fun _ => rfl), (by first | exact p6 | exact fun _ => rfl), (by first | exact p7 | exact fun _ => rfl), (by first | exact p8 | exact fun _ => rfl), (fun _ => rfl), (by first | exact p10 | exact fun _ => rfl), (by simp [h11]), (by simp [h12]), (by simp [h13]), (by simp [h16]), (by simpa using q4), (by simpa using q5), (by simpa using q6), (by simpa using q7), (by simp [h11]), (by simp [h12]), (by simp [h13]), (by simp [h14]), (by simp [h15]), (by simp [h16]), (by first | exact fun _ => rfl | exact n16), (by simpa [h11, h16, h12, h13, h14, h15] using hS)⟩
                  · have h11 : L 11 = false := by cases hh : L 11 with | false => rfl | true => (have hq := q11 hh; simp [hi] at hq)
                    have h16 : L 16 = false := by cases hh : L 16 with | false => rfl | true => (have hq := q16 hh; simp [hi] at hq)
                    have h12 : L 12 = false := by cases hh : L 12 with | false => rfl | true => (have hq := q12 hh; simp [h11] at hq)
                    have h13 : L 13 = false := by cases hh : L 13 with | false => rfl | true => (have hq := q13 hh; simp [h12] at hq)
                    have h14 : L 14 = false := by cases hh : L 14 with | false => rfl | true => (have hq := q14 hh; simp [h13] at hq)
                    have h15 : L 15 = false := by cases hh : L 15 with | false => rfl | true => (have hq := q15 hh; simp [h14] at hq)
                    refine wpOp_step rfl (fun K hK => ?_)
                    go_simp
                    exact hK _ _ ⟨_, _, _, _, _, _, _, _, _, _, _, _, _, _, _, _, _, rfl, (by first | exact p0 | exact fun _ => rfl), (by first | exact p1 | exact fun _ => rfl), (by first | exact p2 | exact fun _ => rfl), (by first | exact p3 | exact fun _ => rfl), (by first | exact p4 | exact fun _ => rfl), (by first | exact p5 | exact fun _ => rfl), (by first | exact p6 | exact fun _ => rfl), (by first | exact p7 | exact fun _ => rfl), (by first | exact p8 | exact fun _ => rfl), (by first | exact p9 | exact fun _ => rfl), (fun _ => rfl), (by simp [h11]), (by simp [h12]), (by simp [h13]), (by simp [h16]), (by simpa using q4), (by simpa using q5), (by simpa using q6), (by simpa using q7), (by simp [h11]), (by simp [h12]), (by simp [h13]), (by simp [h14]), (by simp [h15]), (by simp [h16]), (by first | exact fun _ => rfl | exact n16), (by simpa [h11, h16, h12, h13, h14, h15] using hS)⟩
                  · have h12 : L 12 = false := by cases hh : L 12 with | false => rfl | true => (have hq := q12 hh; simp [hi] at hq)
                    have h16 : L 16 = false := by cases hh : L 16 with | false => rfl | true => (have hq := q16 hh; simp [hi] at hq)
                    have h13 : L 13 = false := by cases hh : L 13 with | false => rfl | true => (have hq := q13 hh; simp [h12] at hq)
                    have h14 : L 14 = false := by cases hh : L 14 with | false => rfl | true => (have hq := q14 hh; simp [h13] at hq)
                    have h15 : L 15 = false := by cases hh : L 15 with | false => rfl | true => (have hq := q15 hh; simp [h14] at hq)
                    obtain rfl := p9 (by simp [he])
                    obtain rfl := p10 (by simp [he])
                    have l1 := HLK.out w' (by rw [if_neg (by simp [h15]), if_neg (by simp [h14])] at hS; exact hS)
                    refine wpOp_step rfl (fun K hK => ?_)
                    go_simp
                    exact hK _ _ ⟨_, _, _, _, _, _, _, _, _, _, _, _, _, _, _, _, _, rfl, (by first | exact p0 | exact fun _ => rfl), (by first | exact p1 | exact fun _ => rfl), (by first | exact p2 | exact fun _ => rfl), (by first | exact p3 | exact fun _ => rfl), (by first | exact p4 | exact fun _ => rfl), (by first | exact p5 | exact fun _ => rfl), (by first | exact p6 | exact fun _ => rfl), (by first | exact p7 | exact fun _ => rfl), (by first | exact p8 | exact fun _ => rfl), (by first | exact p9 | exact fun _ => rfl), (by first | exact p10 | exact fun _ => rfl), (fun _ => rfl), (by simp [h12]), (by simp [h13]), (by simp [h16]), (by simpa using q4), (by simpa using q5), (by simpa using q6), (by simpa using q7), (by simp [he]), (by simp [h12]), (by simp [h13]), (by simp [h14]), (by simp [h15]), (by simp [h16]), (by first | exact fun _ => rfl | exact n16), (by simpa [h12, h16, h13, h14, h15] using hS)⟩
                  · have h13 : L 13 = false := by cases hh : L 13 with | false => rfl | true => (have hq := q13 hh; simp [hi] at hq)
                    have h16 : L 16 = false := by cases hh : L 16 with | false => rfl | true => (have hq := q16 hh; simp [hi] at hq)
                    have h14 : L 14 = false := by cases hh : L 14 with | false => rfl | true => (have hq := q14 hh; simp [h13] at hq)
                    have h15 : L 15 = false := by cases hh : L 15 with | false => rfl | true => (have hq := q15 hh; simp [h14] at hq)
                    obtain rfl := p8 (by simp [he])
                    obtain rfl := p11 (by simp [he])
                    have l2 := HLL.out w' (by rw [if_neg (by simp [h15]), if_neg (by simp [h14])] at hS; exact hS)
                    refine wpOp_step rfl (fun K hK => ?_)
                    go_simp
                    exact hK _ _ ⟨_, _, _, _, _, _, _, _, _, _, _, _, _, _, _, _, _, rfl, (by first | exact p0 | exact fun _ => rfl), (by first | exact p1 | exact fun _ => rfl), (by first | exact p2 | exact fun _ => rfl), (by first | exact p3 | exact fun _ => rfl), (by first | exact p4 | exact fun _ => rfl), (by first | exact p5 | exact fun _ => rfl), (by first | exact p6 | exact fun _ => rfl), (by first | exact p7 | exact fun _ => rfl), (by first | exact p8 | exact fun _ => rfl), (by first | exact p9 | exact fun _ => rfl), (by first | exact p10 | exact fun _ => rfl), (by first | exact p11 | exact fun _ => rfl), (fun _ => rfl), (by simp [h13]), (by simp [h16]), (by simpa using q4), (by simpa using q5), (by simpa using q6), (by simpa using q7), (by simpa using q11), (by simp [he]), (by simp [h13]), (by simp [h14]), (by simp [h15]), (by simp [h16]), (by first | exact fun _ => rfl | exact n16), (by simpa [h13, h16, h14, h15] using hS)⟩
                  · have h14 : L 14 = false := by cases hh : L 14 with | false => rfl | true => (have hq := q14 hh; simp [hi] at hq)
                    have h16 : L 16 = false := by cases hh : L 16 with | false => rfl | true => (have hq := q16 hh; simp [hi] at hq)
                    have h15 : L 15 = false := by cases hh : L 15 with | false => rfl | true => (have hq := q15 hh; simp [h14] at hq)
                    obtain rfl := p1 (by simp [he])
                    obtain rfl := p7 (by simp [he])
                    obtain rfl := p12 (by simp [he])
                    refine wpOp_step rfl (fun K hK => ?_)
                    go_simp
                    exact hK _ _ ⟨_, _, _, _, _, _, _, _, _, _, _, _, _, _, _, _, _, rfl, (by first | exact p0 | exact fun _ => rfl), (by first | exact p1 | exact fun _ => rfl), (by first | exact p2 | exact fun _ => rfl), (by first | exact p3 | exact fun _ => rfl), (by first | exact p4 | exact fun _ => rfl), (by first | exact p5 | exact fun _ => rfl), (by first | exact p6 | exact fun _ => rfl), (by first | exact p7 | exact fun _ => rfl), (by first | exact p8 | exact fun _ => rfl), (by first | exact p9 | exact fun _ => rfl), (by first | exact p10 | exact fun _ => rfl), (by first | exact p11 | exact fun _ => rfl), (by first | exact p12 | exact fun _ => rfl), (fun _ => rfl), (by simp [h16]), (by simpa using q4), (by simpa using q5), (by simpa using q6), (by simpa using q7), (by simpa using q11), (by simpa using q12), (by simp [he]), (by simp [h14]), (by simp [h15]), (by simp [h16]), (by first | exact fun _ => rfl | exact n16), (by simpa [h14, h16, h15] using hS)⟩
                  · have h15 : L 15 = false := by cases hh : L 15 with | false => rfl | true => (have hq := q15 hh; simp [hi] at hq)
                    have h16 : L 16 = false := by cases hh : L 16 with | false => rfl | true => (have hq := q16 hh; simp [hi] at hq)
                    obtain rfl := p13 (by simp [he])
                    rw [if_neg (by simp [h15]), if_neg (by simp [hi])] at hS
                    have hN := hS.new 31 [.string (P l), .bool (F1 a), .int .i64 cnt]
                    refine wpOp_step rfl (fun K hK => ?_)
                    go_simp
                    exact hK _ _ ⟨_, _, _, _, _, _, _, _, _, _, _, _, _, _, _, _, _, rfl, (by first | exact p0 | exact fun _ => rfl), (by first | exact p1 | exact fun _ => rfl), (by first | exact p2 | exact fun _ => rfl), (by first | exact p3 | exact fun _ => rfl), (by first | exact p4 | exact fun _ => rfl), (by first | exact p5 | exact fun _ => rfl), (by first | exact p6 | exact fun _ => rfl), (by first | exact p7 | exact fun _ => rfl), (by first | exact p8 | exact fun _ => rfl), (by first | exact p9 | exact fun _ => rfl), (by first | exact p10 | exact fun _ => rfl), (by first | exact p11 | exact fun _ => rfl), (by first | exact p12 | exact fun _ => rfl), (by first | exact p13 | exact fun _ => rfl), (by simp [h16]), (by simpa using q4), (by simpa using q5), (by simpa using q6), (by simpa using q7), (by simpa using q11), (by simpa using q12), (by simpa using q13), (by simp [he]), (by simp [h15]), (by simp [h16]), (by first | exact fun _ => rfl | exact n16), (by rw [if_neg (by simp [h15]), if_pos (by simp)]; exact ⟨_, rfl, hN⟩)⟩
                  · have h16 : L 16 = false := by cases hh : L 16 with | false => rfl | true => (have hq := q16 hh; simp [hi] at hq)
                    obtain rfl := p0 (by simp [he])
                    have t14 : L 14 = true := by simp [he]
                    rw [if_neg (by simp [hi]), if_pos t14] at hS
                    obtain ⟨gv, rfl, hS⟩ := hS
                    have hv0 : Rd w' w'.heap.size 3 (some ⟨gv, 0, none⟩) 1 [.string (P l), .bool (F1 a), .int .i64 cnt] := ⟨rfl, fun _ => ⟨gv, 0, rfl, (hS.blk (LB.length + 1) mid_last).lt, fun j u hu => by rw [Nat.zero_add]; exact hS.cell (LB.length + 1) mid_last hu⟩⟩
                    refine wpOp_at rfl rfl ?_
                    refine oper_append_sep hS LB.length (.tmp 52) (.tmp 66) 24 rfl 31 tj (.agg #[.string ⟨#[]⟩, .bool false, .int .i64 0]) 3 32 Tryd.underlying24 HTJ.out.1 HTJ.out.2.1 HTJ.out.2.2.1 HTJ.out.2.2.2 rfl (by omega) _ p _ rfl mid_at _ _ 1 1 _ rfl hv0 (by simp [Value.oneCell']) (by simp only [maxLen]; omega) (by omega) ?_
                    intro A' c' w5 hc' _ K5
                    rw [mid_set] at K5
                    exact ⟨_, _, _, _, _, _, _, _, _, _, _, _, _, _, _, _, _, rfl, (by first | exact p0 | exact fun _ => rfl), (by first | exact p1 | exact fun _ => rfl), (by first | exact p2 | exact fun _ => rfl), (by first | exact p3 | exact fun _ => rfl), (by first | exact p4 | exact fun _ => rfl), (by first | exact p5 | exact fun _ => rfl), (by first | exact p6 | exact fun _ => rfl), (by first | exact p7 | exact fun _ => rfl), (by first | exact p8 | exact fun _ => rfl), (by first | exact p9 | exact fun _ => rfl), (by first | exact p10 | exact fun _ => rfl), (by first | exact p11 | exact fun _ => rfl), (by first | exact p12 | exact fun _ => rfl), (by first | exact p13 | exact fun _ => rfl), (by simp [h16]), (by simpa using q4), (by simpa using q5), (by simpa using q6), (by simpa using q7), (by simpa using q11), (by simpa using q12), (by simpa using q13), (by simpa using q14), (by simp [he]), (by simp [h16]), (by first | exact fun _ => rfl | exact n16), (by rw [if_pos (by simp)]; exact ⟨A', c', rfl, hc', K5.sub (List.sublist_append_left _ _)⟩)⟩
                  · refine wpOp_step rfl (fun K hK => ?_)
                    go_simp
                    exact hK _ _ ⟨_, _, _, _, _, _, _, _, _, _, _, _, _, _, _, _, _, rfl, (by first | exact p0 | exact fun _ => rfl), (by first | exact p1 | exact fun _ => rfl), (by first | exact p2 | exact fun _ => rfl), (by first | exact p3 | exact fun _ => rfl), (by first | exact p4 | exact fun _ => rfl), (by first | exact p5 | exact fun _ => rfl), (by first | exact p6 | exact fun _ => rfl), (by first | exact p7 | exact fun _ => rfl), (by first | exact p8 | exact fun _ => rfl), (by first | exact p9 | exact fun _ => rfl), (by first | exact p10 | exact fun _ => rfl), (by first | exact p11 | exact fun _ => rfl), (by first | exact p12 | exact fun _ => rfl), (by first | exact p13 | exact fun _ => rfl), (fun _ => rfl), (by simpa using q4), (by simpa using q5), (by simpa using q6), (by simpa using q7), (by simpa using q11), (by simpa using q12), (by simpa using q13), (by simpa using q14), (by simpa using q15), (by simp [he]), (by simp), (by simpa using hS)⟩
                · rintro L ac w' ⟨x11, x52, x53, x54, x55, x56, x57, x58, x59, x60, x61, x62, x63, x64, x65, x66, x67, ha, p0, p1, p2, p3, p4, p5, p6, p7, p8, p9, p10, p11, p12, p13, p16, q4, q5, q6, q7, q11, q12, q13, q14, q15, q16, n16, hS⟩ hall
                  have t14 := hall 14 (by decide)
                  have t15 := hall 15 (by decide)
                  rw [if_pos t15] at hS
                  obtain ⟨A', c', rfl, hc', hS⟩ := hS
                  obtain rfl := p0 (hall 0 (by decide))
                  obtain rfl := p1 (hall 1 (by decide))
                  obtain rfl := p2 (hall 2 (by decide))
                  obtain rfl := p3 (hall 3 (by decide))
                  obtain rfl := p4 (hall 4 (by decide))
                  obtain rfl := p5 (hall 5 (by decide))
                  obtain rfl := p6 (hall 6 (by decide))
                  obtain rfl := p7 (hall 7 (by decide))
                  obtain rfl := p8 (hall 8 (by decide))
                  obtain rfl := p9 (hall 9 (by decide))
                  obtain rfl := p10 (hall 10 (by decide))
                  obtain rfl := p11 (hall 11 (by decide))
                  obtain rfl := p12 (hall 12 (by decide))
                  obtain rfl := p13 (hall 13 (by decide))
                  obtain rfl := p16 (hall 16 (by decide))
                  simp only [turn, List.foldl_cons, List.foldl_nil, List.setIfInBounds_toArray, List.set_cons_succ, List.set_cons_zero] at ha
                  subst ha
                  clear q4 q5 q6 q7 q11 q12 q13 q14 q15 q16 n16 t14 t15
                  have HS9 := Lib.hid hS
                  clear hS
                  go_wp2
                  go_roundg (n - (j + 1))
                  case measure => omega
                  case rel => exact ⟨j + 1, p + 1, A', c', out ++ [⟨P l, F1 a, cnt⟩], by omega, rfl, by go_num, rfl, by omega, HOL2, HLP2, by
                    have h := HS9.out
                    unfold lR
                    rw [List.flatMap_append]
                    exact h⟩
            · obtain rfl : j = n := by omega
              have HLV : Hid (LeavesAre H1 F1 out) := Lib.hid (by
                have h := HLP.out
                rw [List.take_of_length_le (by rw [HSS.out.1]; exact Nat.le_refl _)] at h
                exact leaf_end HT.out HI.out.clean HSS.out.2.2 h)
              have HFIN : Hid (Sep w wr [eR A5 k c5 an, lR A11 p c11 out]) := Lib.hid (by
                rw [HAN.out]
                exact HS.out.sub ((List.singleton_sublist.2 (List.mem_of_getElem? HL1.out)).append_right _))
              clear HS HLP
              go_wp2
              refine bodyPost_ret (v := .tuple #[.slice A5 k c5, .slice A11 p c11]) (by simp [results, Tryd.results4]) rfl ?_
              exact ⟨A5, c5, A11, p, c11, out, rfl, HOL, HLV, hkc, by omega, HFIN.out⟩
        · obtain ⟨l, b, hlc, hHl, rfl, rfl⟩ := tab_key HT.out hxa
          have hbl := HI.out.low _ _ hHl
          obtain ⟨ls, hls1, hls2, hls3⟩ := HLN.out b hbl
          obtain ⟨c, hc⟩ : ∃ c, ls.length = c := ⟨_, rfl⟩
          rw [hc] at hls2 hls3
          have hlive := live_of H2 (fun a ha => ⟨1 + a + 1, by
            have e := HBN.out a ha
            rw [List.getElem?_set_ne (by have := (List.getElem?_eq_some_iff.1 e).1; omega)]
            exact atI e⟩)
          rw [set1] at H2
          have l1 : (Instr.lookup 41 (.map (some gl)) (.pointer (some ⟨G b, 0, none⟩)) false).run Tryd.prog w2 = .ok (.int .i64 (c : Int)) w2 := by
            have h := Pm.Sep.look H2 B.length at0 (kptr G n1) hlive (x := G b) ⟨b, hbl, rfl⟩ Tryd.underlying41 (szi w2)
            rw [elim_getD, hls2] at h
            exact h
          obtain ⟨w3, hst, hsz3, K3⟩ := Pm.Sep.store H2 B.length at0 (kptr G n1) hlive (x := G b) ⟨b, hbl, rfl⟩ Tryd.underlying41 (by simp only [maxLen]; omega) ((c : Int) + 1)
          rw [set0] at K3
          have hst' : (Instr.mapUpdate 41 (.map (some gl)) (.pointer (some ⟨G b, 0, none⟩)) (.int .i64 ((c : Int) + 1))).run Tryd.prog w2 = .ok () w3 := hst
          have HLN2 : Hid (LinkR H1 G n1 todo' (mup hl (G b) ((c : Int) + 1)) n) := Lib.hid (link_next HI.out.clean HGI.out HLN.out hbl hHl hx hlen hme hls2)
          have HS3 := Lib.hid K3
          have HR2 := Lib.hid R2
          have hcb : c ≤ 9223372036854775806 := by omega
          have hwm : wrap64 ((c : Int) + 1) = (c : Int) + 1 := by unfold wrap64; omega
          clear HS H2 K3 R2 hsz2 hsz3 hx hxa hme hls1 hls2 hls3 hc hlive hst HRG HLN hlc hHl hbl
          go_wp2
          go_roundg todo'.length
          case measure => omega
          case rel => exact ⟨todo', seen', clock, _, _, rfl, HR2, (by split <;> omega), HLN2, HS3.out⟩
end Tr
end Go.Proofs.YtgidkaidljiddaaDoor
