/-
  Base texts in one: CaW5, CaW6, CaW7. Conditions: none beyond each theorem's own premises.
-/
import Derived.Test.YtjopiepfjbnkbaaGreatDoorCaW4
import Derived.Deep.MidRow
/-! Walk of cache.do: write back all; every way through one operation. Conditions: none beyond each theorem's own premises. -/
namespace Go.Proofs.YtjopiepfjbnkbaaGreatDoor
open Go.RowKit Go.Shelf
set_option linter.unusedVariables false
namespace Ca
/-- the first k written back -/
def fl (k : Nat) (L : List Pg) : List Pg := (L.take k).map Pg.clean ++ L.drop k
theorem fl_len (k : Nat) (L : List Pg) : (fl k L).length = L.length := by
  unfold fl
  rw [List.length_append, List.length_map, List.length_take, List.length_drop]
  omega
theorem fl_at {L : List Pg} {k : Nat} {p : Pg} (h : L[k]? = some p) : (fl k L)[k]? = some p := by
  have hk := (List.getElem?_eq_some_iff.1 h).1
  unfold fl
  rw [List.getElem?_append_right (by rw [List.length_map, List.length_take]; omega), List.length_map, List.length_take, List.getElem?_drop, show k + (k - min k L.length) = k by omega]
  exact h
theorem fl_set {L : List Pg} {k : Nat} {p : Pg} (h : L[k]? = some p) : (fl k L).set k p.clean = fl (k + 1) L := by
  have hk := (List.getElem?_eq_some_iff.1 h).1
  have hx := (List.getElem?_eq_some_iff.1 h).2
  unfold fl
  rw [List.set_append_right _ _ (by rw [List.length_map, List.length_take]; omega), List.length_map, List.length_take, show k - min k L.length = 0 by omega, List.drop_eq_getElem_cons hk, hx, List.set_cons_zero, List.take_add_one, h]
  simp
theorem take_n {L : List Pg} {k : Nat} {p : Pg} (h : L[k]? = some p) : flushN (L.take (k + 1)) = flushN (L.take k) + cnt1 p := by
  unfold flushN
  rw [List.take_add_one, h]
  simp
theorem take_s {L : List Pg} {k : Nat} {p : Pg} (st : List Int) (h : L[k]? = some p) : flushS (L.take (k + 1)) st = put1 p (flushS (L.take k) st) := by
  unfold flushS
  rw [List.take_add_one, h]
  simp
theorem objs_set {bl : List Nat} {L : List Pg} {k g : Nat} {p : Pg} (h : bl[k]? = some g) : (objs bl L).set k (pgI g p) = objs bl (L.set k p) := by
  unfold objs
  refine List.ext_getElem? fun j => ?_
  rw [List.getElem?_set, List.getElem?_zipWith, List.getElem?_zipWith, List.getElem?_set, List.length_zipWith]
  by_cases hkj : k = j
  · subst hkj
    have hb := (List.getElem?_eq_some_iff.1 h).1
    rw [if_pos rfl, if_pos rfl, h]
    by_cases h2 : k < L.length
    · rw [if_pos (by omega), if_pos h2]
    · rw [if_neg (by omega), if_neg h2]
  · rw [if_neg hkj, if_neg hkj]
theorem objs_len {bl : List Nat} {L : List Pg} (h : bl.length = L.length) : (objs bl L).length = L.length := by
  unfold objs
  rw [List.length_zipWith, h, Nat.min_self]

set_option maxRecDepth 100000 in
set_option maxHeartbeats 3200000 in
theorem do_flush (gc sz : Nat) (pg d : Int) (c : Cs) (w0 w : World) (hs : St w0 w gc sz c) (hc : Ok sz c) (hz : sz ≤ 16) (hb : c.s + 16 < 140737488355328) :
    Calls Tryz.prog 20 #[.pointer (some ⟨gc, 0, none⟩), .agg #[.int .i64 3, .int .i64 pg, .int .i64 d]] w (fun e w' => e = .returned (.tuple #[]) ∧ St w0 w' gc sz ⟨c.L.map Pg.clean, c.rd, c.f, c.s + flushN c.L, flushS c.L c.st⟩) := by
  obtain ⟨A, cc, Ar, cr, bl, J, hbl, hcc, H0⟩ := hs
  obtain ⟨n, hn⟩ : ∃ n, n = c.L.length := ⟨_, rfl⟩
  rw [← hn] at H0 hcc hbl
  have hn16 : n ≤ 16 := by have := hc.len; omega
  have HN := Lib.hid hn
  have HC := Lib.hid hc
  have HBL := Lib.hid hbl
  have H0' := Lib.hid H0
  clear H0 hc hn hbl
  go_enter Tryz.func20, Tryz.ntmps20
  go_upto_region 1 with (fail)
  have H1 := Lib.hid (H0'.out.alloc (.cells #[.int .i64 3, .int .i64 pg, .int .i64 d] 33))
  have f0 := (Blk.new w 33 [.int .i64 3, .int .i64 pg, .int .i64 d]).cell (k := 0) rfl
  clear H0'
  generalize w.alloc (.cells #[.int .i64 3, .int .i64 pg, .int .i64 d] 33) = w1 at f0 H1 ⊢
  generalize w.heap.size = gx at f0 ⊢
  have c1 := H1.out.cell 0 rfl (k := 1) rfl
  go_wp2
  go_loopg [16] n (fun q i wr => ∃ (k : Nat), k ≤ n ∧ q = n - k ∧ i = .int .i64 (k : Int) ∧
    Sep w0 wr (ccI gc (.int .i64 (sz : Int)) (.slice A n cc) (.slice Ar c.rd.length cr) c.f (c.s + flushN (c.L.take k)) (flushS (c.L.take k) c.st) :: ptI A n cc bl :: rdI Ar c.rd.length cr c.rd :: (objs bl (fl k c.L) ++ J)))
  case atStart => exact ⟨0, Nat.zero_le _, rfl, rfl, H1.out⟩
  case round =>
    clear H1 c1 f0
    obtain ⟨k, hk, rfl, rfl, hs⟩ := hrel
    have HS := Lib.hid hs
    clear hs
    by_cases hlt : k < n
    · obtain ⟨p, hp⟩ : ∃ p, c.L[k]? = some p := ⟨_, List.getElem?_eq_getElem (by rw [← HN.out]; exact hlt)⟩
      obtain ⟨g, hg⟩ : ∃ g, bl[k]? = some g := ⟨_, List.getElem?_eq_getElem (by rw [HBL.out]; exact hlt)⟩
      obtain ⟨b, hA, _, hat⟩ := HS.out.rowAt 1 rfl (by omega)
      cases hA
      have e1 : wr.cell? ⟨b, k, none⟩ = some (.pointer (some ⟨g, 0, none⟩)) := (hat k).1 _ (pcell_at hg)
      have i0 : (0 : Int) ≤ (k : Int) := by omega
      have i1 : (k : Int) < (n : Int) := by omega
      have hob := objs_at hg (fl_at hp)
      have hol := (List.getElem?_eq_some_iff.1 hob).1
      have hsum : flushN (c.L.take k) ≤ 16 := by
        have := sum_le (c.L.take k)
        rw [List.length_take] at this
        omega
      have cC := Lib.hid (clean_any gc g (k + 2) c.f (c.s + flushN (c.L.take k)) _ _ _ (flushS (c.L.take k) c.st) p _ w0 wr HS.out (by
        rw [List.getElem?_cons_succ, List.getElem?_cons_succ, List.getElem?_append, if_pos hol]
        exact hob) (HC.out.low p (List.mem_of_getElem? hp)) (by rw [flush_len]; exact HC.out.st) (by omega))
      have HP := Lib.hid hp
      have HG := Lib.hid hg
      have HOL := Lib.hid hol
      clear hat hob hol hsum hp hg
      go_wp2_with fail
      refine cC.out.mono ?_; rintro en w2 ⟨rfl, K2⟩
      have H2 : Hid (Sep w0 w2 (ccI gc (.int .i64 (sz : Int)) (.slice (some ⟨b, 0, none⟩) n cc) (.slice Ar c.rd.length cr) c.f (c.s + flushN (c.L.take (k + 1))) (flushS (c.L.take (k + 1)) c.st) :: ptI (some ⟨b, 0, none⟩) n cc bl :: rdI Ar c.rd.length cr c.rd :: (objs bl (fl (k + 1) c.L) ++ J))) := Lib.hid (by
        rw [List.set_cons_succ, List.set_cons_succ, List.set_append_left _ _ HOL.out, objs_set HG.out, fl_set HP.out] at K2
        rw [take_n HP.out, take_s _ HP.out, ← Nat.add_assoc]
        exact K2)
      clear K2 e1 HS
      go_wp2
      go_roundg (n - (k + 1))
      case measure => omega
      case rel => exact ⟨k + 1, by omega, rfl, by go_num, H2.out⟩
    · obtain rfl : k = n := by omega
      go_wp2
      refine bodyPost_ret (v := .tuple #[]) (by simp [results, Tryz.results20]) rfl ?_
      refine ⟨rfl, A, cc, Ar, cr, bl, J, ?_, ?_, ?_⟩
      · simp only [List.length_map]
        rw [HBL.out, HN.out]
      · simp only [List.length_map]
        rw [← HN.out]
        exact hcc
      · have := HS.out
        have e1 : c.L.take k = c.L := by rw [HN.out, List.take_length]
        have e2 : fl k c.L = c.L.map Pg.clean := by unfold fl; rw [e1, HN.out, List.drop_length, List.append_nil]
        rw [e1, e2] at this
        simp only [List.length_map]
        rw [← HN.out]
        exact this

theorem out_u {L : List Pg} {n : Nat} {page : Int} (hn : (n : Int) = page) (ho : Out L page) : ∀ q ∈ L, q.n ≠ n := fun q hq e => ho q hq (by rw [e, hn])
theorem do_any (gc sz b : Nat) (o : O) (c c' : Cs) (w0 w : World) (hs : St w0 w gc sz c) (hc : Ok sz c) (hz : sz ≤ 16) (hg : Good o) (hw : Way sz c o c') (hb : Bd c b) (hb2 : b ≤ 5864062014806) :
    Calls Tryz.prog 20 #[.pointer (some ⟨gc, 0, none⟩), .agg #[.int .i64 o.kind, .int .i64 o.page, .int .i64 o.data]] w (fun e w' => e = .returned (.tuple #[]) ∧ St w0 w' gc sz c') := by
  obtain ⟨kd, pg, d⟩ := o
  obtain ⟨g1, g2, g3, g4⟩ := hg
  obtain ⟨b1, b2, b3⟩ := hb
  simp only at g1 g2 g3 g4
  cases hw with
  | flush hk => simp only at hk; subst hk; exact do_flush gc sz pg d c w0 w hs hc hz (by omega)
  | @hitR i p hk hi hp =>
    simp only at hk hp; subst hk hp
    exact do_read_hit gc sz p.n d c _ p _ _ w0 w hs hc hz (.hit hi rfl) (by omega) (by omega)
  | @hitW i p hk hi hp =>
    simp only at hk hp; subst hk hp
    exact do_write gc sz p.n d c true _ p _ _ w0 w hs hc hz (.hit hi rfl) (by omega)
  | @missR n x hk hn ho hl hx =>
    simp only at hk hn; subst hk hn
    exact do_read_miss gc sz n d x c _ _ _ w0 w hs hc hz (.room (out_u rfl ho) hl) (by omega) (by omega) (by omega) (by omega) hx
  | @missW n hk hn ho hl =>
    simp only at hk hn; subst hk hn
    exact do_write gc sz n d c false _ _ _ _ w0 w hs hc hz (.room (out_u rfl ho) hl) (by omega)
  | @fullR n x q t hk hn ho hl hq hx =>
    simp only at hk hn; subst hk hn
    exact do_read_miss gc sz n d x c _ _ _ w0 w hs hc hz (.full (out_u rfl ho) hl hq) (by omega) (by omega) (by omega) (by omega) hx
  | @fullW n q t hk hn ho hl hq =>
    simp only at hk hn; subst hk hn
    exact do_write gc sz n d c false _ _ _ _ w0 w hs hc hz (.full (out_u rfl ho) hl hq) (by omega)
end Ca
end Go.Proofs.YtjopiepfjbnkbaaGreatDoor
/-! Walk of cache.Play. Conditions: none beyond each theorem's own premises. -/
namespace Go.Proofs.YtjopiepfjbnkbaaGreatDoor
open Go.RowKit Go.Shelf
set_option linter.unusedVariables false
namespace Ca
def O.cells (o : O) : List Value := [.int .i64 o.kind, .int .i64 o.page, .int .i64 o.data]
def O.val (o : O) : Value := .agg #[.int .i64 o.kind, .int .i64 o.page, .int .i64 o.data]
theorem O.len : ∀ o : O, o.cells.length = 3 := fun _ => rfl

set_option maxRecDepth 100000 in
set_option maxHeartbeats 1600000 in
theorem wrong_any (o : O) (b : Bool) (w : World) (hb : b = true ↔ ¬ Good o) : Calls Tryz.prog 18 #[.agg #[.int .i64 o.kind, .int .i64 o.page, .int .i64 o.data]] w (Ret w (.bool b)) := by
  obtain ⟨kd, pg, d⟩ := o
  unfold Good at hb
  simp only at hb ⊢
  have HB := Lib.hid hb
  have hbl : Below w.heap.size w (w.alloc (.cells #[.int .i64 kd, .int .i64 pg, .int .i64 d] 33)) := (Below.refl _ _).alloc (Nat.le_refl _) _
  have f0 := (Blk.new w 33 [.int .i64 kd, .int .i64 pg, .int .i64 d]).cell (k := 0) rfl
  have f1 := (Blk.new w 33 [.int .i64 kd, .int .i64 pg, .int .i64 d]).cell (k := 1) rfl
  have HBL := Lib.hid hbl
  clear hb hbl
  go_enter Tryz.func18, Tryz.ntmps18
  go_upto_region 1 with (fail)
  generalize w.alloc (.cells #[.int .i64 kd, .int .i64 pg, .int .i64 d] 33) = w1 at f0 f1 HBL ⊢
  generalize w.heap.size = gx at f0 f1 ⊢
  by_cases h1 : kd < 1
  · obtain rfl : b = true := HB.out.2 (by omega)
    go_wp2
    go_ret
    exact Ret.mk rfl HBL.out
  by_cases h2 : kd > 3
  · obtain rfl : b = true := HB.out.2 (by omega)
    go_wp2
    go_ret
    exact Ret.mk rfl HBL.out
  by_cases h3 : pg < 0
  · obtain rfl : b = true := HB.out.2 (by omega)
    go_wp2
    go_ret
    exact Ret.mk rfl HBL.out
  by_cases h4 : pg ≥ 16
  · obtain rfl : b = true := HB.out.2 (by omega)
    go_wp2
    go_ret
    exact Ret.mk rfl HBL.out
  · obtain rfl : b = false := by
      cases b with
      | false => rfl
      | true => exact absurd (HB.out.1 rfl) (fun h => h (by omega))
    go_wp2
    go_ret
    exact Ret.mk rfl HBL.out

instance (o : O) : Decidable (Good o) := by unfold Good; infer_instance
abbrev wrongF : Value := .func (.func 18) #[] #[]
set_option maxRecDepth 100000 in
set_option maxHeartbeats 1600000 in
theorem oindex_any (A : Option Addr) (n c : Nat) (ops : List O) (w : World) (hr : Rd w w.heap.size 3 A n (ops.flatMap O.cells)) (hl : ops.length = n) (hn : n ≤ 9223372036854775807) :
    Calls Tryz.prog 40 #[.slice A n c, wrongF] w (fun e w' => ∃ out : Int, e = .returned (.int .i64 out) ∧ (0 ≤ out ↔ ∃ o ∈ ops, ¬ Good o) ∧ Below w.heap.size w w') := by
  have HR := Lib.hid hr
  have HL := Lib.hid hl
  have eg := enters_of Tryz.func18 (by kernel_rfl) rfl
  clear hr hl
  go_enter Tryz.func40, Tryz.ntmps40
  go_wp2
  go_loopg [8] n (fun q i wr => ∃ (k : Nat), k ≤ n ∧ q = n - k ∧ i = .int .i64 k ∧ Hid (∀ o ∈ ops.take k, Good o) ∧ Below w.heap.size w wr)
  case atStart => exact ⟨0, Nat.zero_le _, rfl, rfl, Lib.hid (by simp), Below.refl _ _⟩
  case round =>
    obtain ⟨k, hk, rfl, rfl, HG, hb⟩ := hrel
    have HB := Lib.hid hb
    clear hb
    by_cases hlt : k < n
    · obtain ⟨b, off, rfl, hb, hc⟩ := HR.out.at_ O.len (by omega)
      obtain ⟨o, ho⟩ : ∃ o, ops[k]? = some o := ⟨_, List.getElem?_eq_getElem (by rw [HL.out]; exact hlt)⟩
      have q0 : wr.cell? ⟨b, off + k * 3, none⟩ = some (.int .i64 o.kind) := (HB.out.cell hb).trans (hc k 0 o _ ho rfl)
      have q1 : wr.cell? ⟨b, off + k * 3 + 1, none⟩ = some (.int .i64 o.page) := (HB.out.cell hb).trans (hc k 1 o _ ho rfl)
      have q2 : wr.cell? ⟨b, off + k * 3 + 2, none⟩ = some (.int .i64 o.data) := (HB.out.cell hb).trans (hc k 2 o _ ho rfl)
      have i0 : (0 : Int) ≤ (k : Int) := by omega
      have i1 : (k : Int) < (n : Int) := by omega
      have HO := Lib.hid ho
      clear hc ho
      by_cases hg : Good o
      · have cB := Lib.hid (wrong_any o false wr (by simp [hg]))
        have HGG := Lib.hid hg
        clear hg
        go_wp2_with fail
        refine cB.out.mono ?_; rintro en w1 ⟨rfl, hb1⟩
        have B1 := Lib.hid (HB.out.trans (hb1.mono HB.out.size))
        go_wp2
        go_roundg (n - (k + 1))
        case measure => omega
        case rel =>
          refine ⟨k + 1, by omega, rfl, by go_num, Lib.hid (fun x hx => ?_), B1.out⟩
          rw [List.take_add_one, HO.out] at hx
          rcases List.mem_append.1 hx with h | h
          · exact HG.out x h
          · simp only [Option.toList, List.mem_singleton] at h
            rw [h]
            exact HGG.out
      · have cB := Lib.hid (wrong_any o true wr (by simp [hg]))
        have HGG := Lib.hid hg
        clear hg
        go_wp2_with fail
        refine cB.out.mono ?_; rintro en w1 ⟨rfl, hb1⟩
        have B1 := Lib.hid (HB.out.trans (hb1.mono HB.out.size))
        go_wp2
        go_ret
        exact ⟨(k : Int), rfl, ⟨fun _ => ⟨o, List.mem_of_getElem? HO.out, HGG.out⟩, fun _ => by omega⟩, B1.out⟩
    · go_wp2
      go_ret
      refine ⟨-1, rfl, ⟨fun h => absurd h (by decide), fun ⟨o, ho, hno⟩ => absurd (HG.out o ?_) hno⟩, HB.out⟩
      rw [List.take_of_length_le (by rw [HL.out]; omega)]
      exact ho
set_option maxRecDepth 100000 in
set_option maxHeartbeats 1600000 in
theorem contains_any (A : Option Addr) (n c : Nat) (ops : List O) (b : Bool) (w : World) (hr : Rd w w.heap.size 3 A n (ops.flatMap O.cells)) (hl : ops.length = n) (hn : n ≤ 9223372036854775807) (hb : b = true ↔ ∃ o ∈ ops, ¬ Good o) :
    Calls Tryz.prog 19 #[.slice A n c, wrongF] w (Ret w (.bool b)) := by
  have cI := Lib.hid (oindex_any A n c ops w hr hl hn)
  have HB := Lib.hid hb
  clear hr hl hb
  go_enter Tryz.func19, Tryz.ntmps19
  go_wp2_with fail
  refine cI.out.mono ?_; rintro en w1 ⟨out, rfl, ho, hb1⟩
  have HO := Lib.hid ho
  have HB1 := Lib.hid hb1
  clear ho hb1
  cases b with
  | true =>
    have h0 : (0 : Int) ≤ out := HO.out.2 (HB.out.1 rfl)
    go_wp2
    go_ret
    exact Ret.mk rfl HB1.out
  | false =>
    have h0 : ¬ (0 : Int) ≤ out := fun h => absurd (HB.out.2 (HO.out.1 h)) (by decide)
    go_wp2
    go_ret
    exact Ret.mk (bool_eq (decide_eq_false (by omega))) HB1.out
end Ca
end Go.Proofs.YtjopiepfjbnkbaaGreatDoor
/-! Walk of cache.Play, whole. Conditions: none beyond each theorem's own premises. -/
namespace Go.Proofs.YtjopiepfjbnkbaaGreatDoor
open Go.RowKit Go.Shelf
set_option linter.unusedVariables false
namespace Ca
def cdc (v : Value) (f s : Nat) (st : List Int) : List Value := [v, .int .i64 (f : Int), .int .i64 (s : Int)] ++ st.flatMap icell
theorem info64 : (Tryz.prog.info? 27).map (·.size) = some 19 := by kernel_rfl
theorem cdc_len {v : Value} {f s : Nat} {st : List Int} (h : st.length = 16) : (cdc v f s st).length = 19 := by
  unfold cdc
  rw [List.length_append, icell_size, h]
  rfl
theorem cdc_one {A : Option Addr} {n c f s : Nat} {st : List Int} : (cdc (.slice A n c) f s st).toArray.all (·.oneCell') = true := by
  rw [Array.all_eq_true_iff_forall_mem]
  intro u hu
  simp only [cdc, List.mem_toArray, List.mem_append, List.mem_cons, List.not_mem_nil, or_false] at hu
  rcases hu with (rfl | rfl | rfl) | hu
  · rfl
  · rfl
  · rfl
  · exact icell_one' st u hu
theorem cdc_mid (v0 v1 v2 : Value) (f s : Nat) (st : List Int) (j : Nat) : (ccells v0 v1 v2 f s st)[2 + j]? = (cdc v2 f s st)[j]? := by
  rw [show ccells v0 v1 v2 f s st = v0 :: v1 :: cdc v2 f s st from rfl, show 2 + j = j + 1 + 1 by omega, List.getElem?_cons_succ, List.getElem?_cons_succ]
def Z0 : List Value := cdc (.slice none 0 0) 0 0 (List.replicate 16 0)
def BadRet (w : World) (e : Ending) (w' : World) : Prop := e = .returned (.tuple #[.agg Z0.toArray, .int .i64 2]) ∧ Below w.heap.size w w'
def CRet (w : World) (cf : Cs) (e : Ending) (w' : World) : Prop := ∃ Ar cr, e = .returned (.tuple #[.agg (cdc (.slice Ar cf.rd.length cr) cf.f cf.s cf.st).toArray, .int .i64 0]) ∧ Sep w w' [rdI Ar cf.rd.length cr cf.rd]
theorem z0_one : Z0.toArray.all (·.oneCell') = true := cdc_one
theorem z0_len : Z0.length = 19 := rfl
def C0 : Cs := ⟨[], [], 0, 0, List.replicate 16 0⟩

theorem info64z : (Tryz.prog.info? 27).map (·.size) = some Z0.toArray.size := info64
theorem z0_load {w : World} {g : Nat} (h : Blk w g 27 Z0) : (loadVar 27 ⟨g, 0, none⟩).run Tryz.prog w = .ok (.agg Z0.toArray) w :=
  run_loadVar_row w g 27 27 Z0.toArray (0, 0) _ h Tryz.underlying27 rfl info64z

set_option maxRecDepth 100000 in
set_option maxHeartbeats 3200000 in
theorem play_bad (sz : Int) (Ad : Option Addr) (n c : Nat) (ops : List O) (w : World) (hr : Rd w w.heap.size 3 Ad n (ops.flatMap O.cells)) (hl : ops.length = n) (hn : n ≤ 5864062014806) (hbad : sz < 1 ∨ sz > 16 ∨ ∃ o ∈ ops, ¬ Good o) :
    Calls Tryz.prog 6 #[.int .i64 sz, .slice Ad n c] w (BadRet w) := by
  have H1 : Hid (Sep w (w.alloc (.cells #[.slice none 0 0, .int .i64 0, .int .i64 0, .int .i64 0, .int .i64 0, .int .i64 0, .int .i64 0, .int .i64 0, .int .i64 0, .int .i64 0, .int .i64 0, .int .i64 0, .int .i64 0, .int .i64 0, .int .i64 0, .int .i64 0, .int .i64 0, .int .i64 0, .int .i64 0] 27)) [.cells w.heap.size 27 Z0]) := Lib.hid ((Sep.nil_ w).new 27 Z0)
  have HC : Hid (¬ sz < 1 → ¬ sz > 16 → Calls Tryz.prog 19 #[.slice Ad n c, wrongF] (w.alloc (.cells #[.slice none 0 0, .int .i64 0, .int .i64 0, .int .i64 0, .int .i64 0, .int .i64 0, .int .i64 0, .int .i64 0, .int .i64 0, .int .i64 0, .int .i64 0, .int .i64 0, .int .i64 0, .int .i64 0, .int .i64 0, .int .i64 0, .int .i64 0, .int .i64 0, .int .i64 0] 27)) (Ret (w.alloc (.cells #[.slice none 0 0, .int .i64 0, .int .i64 0, .int .i64 0, .int .i64 0, .int .i64 0, .int .i64 0, .int .i64 0, .int .i64 0, .int .i64 0, .int .i64 0, .int .i64 0, .int .i64 0, .int .i64 0, .int .i64 0, .int .i64 0, .int .i64 0, .int .i64 0, .int .i64 0] 27)) (.bool true))) := Lib.hid fun h1 h2 => contains_any Ad n c ops true _ (hr.later H1.out.below) hl (by omega) ⟨fun _ => hbad.elim (fun h => absurd h h1) (fun h => h.elim (fun h => absurd h h2) id), fun _ => rfl⟩
  clear hr hl hbad
  go_enter Tryz.func6, Tryz.ntmps6
  go_upto_region 1 with (fail)
  generalize w.alloc (.cells #[.slice none 0 0, .int .i64 0, .int .i64 0, .int .i64 0, .int .i64 0, .int .i64 0, .int .i64 0, .int .i64 0, .int .i64 0, .int .i64 0, .int .i64 0, .int .i64 0, .int .i64 0, .int .i64 0, .int .i64 0, .int .i64 0, .int .i64 0, .int .i64 0, .int .i64 0] 27) = w1 at H1 HC ⊢
  have HBW : Hid (w.heap.size ≤ w.heap.size) := Lib.hid (Nat.le_refl _)
  generalize hg4 : w.heap.size = g4 at H1 ⊢
  have HG4 := Lib.hid hg4
  clear hg4
  by_cases h1 : sz < 1
  · have H2 := Lib.hid H1.out
    generalize w1 = w2 at H2 ⊢
    clear HC
    have HB2 := Lib.hid (H2.out.blk 0 rfl)
    have HW2 := Lib.hid (H2.out.whole 0 rfl Z0)
    go_wp2_with (refine wpList_store_row rfl 27 (.tmp 4) (.tmp 21) rfl g4 Z0.toArray rfl rfl 27 Z0.toArray HB2.out info64z rfl z0_one ?_)
    have hld := z0_load (HW2.out.blk 0 rfl)
    refine bodyPost_ret (v := .tuple #[.agg Z0.toArray, .int .i64 2]) (by simp [results, Tryz.results6, asAddr, hld]) rfl ?_
    exact ⟨rfl, HW2.out.below⟩
  by_cases h2 : sz > 16
  · have H2 := Lib.hid H1.out
    generalize w1 = w2 at H2 ⊢
    clear HC
    have HB2 := Lib.hid (H2.out.blk 0 rfl)
    have HW2 := Lib.hid (H2.out.whole 0 rfl Z0)
    go_wp2_with (refine wpList_store_row rfl 27 (.tmp 4) (.tmp 21) rfl g4 Z0.toArray rfl rfl 27 Z0.toArray HB2.out info64z rfl z0_one ?_)
    have hld := z0_load (HW2.out.blk 0 rfl)
    refine bodyPost_ret (v := .tuple #[.agg Z0.toArray, .int .i64 2]) (by simp [results, Tryz.results6, asAddr, hld]) rfl ?_
    exact ⟨rfl, HW2.out.below⟩
  · have cC := Lib.hid (HC.out h1 h2)
    clear HC
    go_wp2_with fail
    refine cC.out.mono ?_; rintro en w2 ⟨rfl, hb2⟩
    have H2 := Lib.hid (H1.out.later hb2)
    clear cC hb2
    have HB2 := Lib.hid (H2.out.blk 0 rfl)
    have HW2 := Lib.hid (H2.out.whole 0 rfl Z0)
    go_wp2_with (refine wpList_store_row rfl 27 (.tmp 4) (.tmp 21) rfl g4 Z0.toArray rfl rfl 27 Z0.toArray HB2.out info64z rfl z0_one ?_)
    have hld := z0_load (HW2.out.blk 0 rfl)
    refine bodyPost_ret (v := .tuple #[.agg Z0.toArray, .int .i64 2]) (by simp [results, Tryz.results6, asAddr, hld]) rfl ?_
    exact ⟨rfl, HW2.out.below⟩

theorem drop_at {α : Type} {l : List α} {k : Nat} {x : α} (h : l[k]? = some x) : l.drop k = x :: l.drop (k + 1) := by
  obtain ⟨hk, rfl⟩ := List.getElem?_eq_some_iff.1 h
  exact List.drop_eq_getElem_cons hk
theorem St.later {w0 w w' : World} {gc sz : Nat} {c : Cs} (h : St w0 w gc sz c) (hb : Below w.heap.size w w') : St w0 w' gc sz c := by
  obtain ⟨A, cc, Ar, cr, bl, J, h1, h2, H⟩ := h
  exact ⟨A, cc, Ar, cr, bl, J, h1, h2, H.later hb⟩
theorem St.below {w0 w : World} {gc sz : Nat} {c : Cs} (h : St w0 w gc sz c) : Below w0.heap.size w0 w := by
  obtain ⟨A, cc, Ar, cr, bl, J, h1, h2, H⟩ := h
  exact H.below
theorem st_new (w : World) (sz : Nat) : St w (w.alloc (.cells #[.int .i64 (sz : Int), .slice none 0 0, .slice none 0 0, .int .i64 0, .int .i64 0, .int .i64 0, .int .i64 0, .int .i64 0, .int .i64 0, .int .i64 0, .int .i64 0, .int .i64 0, .int .i64 0, .int .i64 0, .int .i64 0, .int .i64 0, .int .i64 0, .int .i64 0, .int .i64 0, .int .i64 0, .int .i64 0] 83)) w.heap.size sz C0 := by
  have h := (((Sep.nil_ w).new 83 (ccells (.int .i64 (sz : Int)) (.slice none 0 0) (.slice none 0 0) 0 0 (List.replicate 16 0))).nilRow 129 1 none).nilRow 3 1 none
  exact ⟨none, 0, none, 0, [], [], rfl, Nat.le_refl _, h⟩
theorem ok0 (sz : Nat) : Ok sz C0 := ⟨Nat.zero_le _, rfl, (fun p hp => by cases hp), List.nodup_nil⟩
theorem bd0 : Bd C0 0 := ⟨Nat.le_refl _, Nat.le_refl _, Nat.le_refl _⟩

set_option maxRecDepth 100000 in
set_option maxHeartbeats 3200000 in
theorem play_ok (sz : Nat) (Ad : Option Addr) (n c : Nat) (ops : List O) (cf : Cs) (w : World) (hr : Rd w w.heap.size 3 Ad n (ops.flatMap O.cells)) (hl : ops.length = n) (hn : n ≤ 5864062014805) (h1 : 1 ≤ sz) (h16 : sz ≤ 16) (hg : ∀ o ∈ ops, Good o) (hp : Plays sz C0 ops cf) :
    Calls Tryz.prog 6 #[.int .i64 (sz : Int), .slice Ad n c] w (CRet w cf) := by
  have H1 : Hid (Sep w (w.alloc (.cells #[.slice none 0 0, .int .i64 0, .int .i64 0, .int .i64 0, .int .i64 0, .int .i64 0, .int .i64 0, .int .i64 0, .int .i64 0, .int .i64 0, .int .i64 0, .int .i64 0, .int .i64 0, .int .i64 0, .int .i64 0, .int .i64 0, .int .i64 0, .int .i64 0, .int .i64 0] 27)) [.cells w.heap.size 27 Z0]) := Lib.hid ((Sep.nil_ w).new 27 Z0)
  have cC := Lib.hid (contains_any Ad n c ops false _ (hr.later H1.out.below) hl (by omega) ⟨fun h => absurd h (by decide), fun ⟨o, ho, hno⟩ => absurd (hg o ho) hno⟩)
  have HR := Lib.hid hr
  have HL := Lib.hid hl
  have HG := Lib.hid hg
  have HF : Hid (Plays sz C0 (ops.drop 0) cf) := Lib.hid hp
  have HOK0 : Hid (Ok sz C0) := Lib.hid (ok0 sz)
  have z1 : ¬ (sz : Int) < 1 := by omega
  have z2 : ¬ (sz : Int) > 16 := by omega
  clear hr hl hg hp
  go_enter Tryz.func6, Tryz.ntmps6
  go_upto_region 1 with (fail)
  generalize w.alloc (.cells #[.slice none 0 0, .int .i64 0, .int .i64 0, .int .i64 0, .int .i64 0, .int .i64 0, .int .i64 0, .int .i64 0, .int .i64 0, .int .i64 0, .int .i64 0, .int .i64 0, .int .i64 0, .int .i64 0, .int .i64 0, .int .i64 0, .int .i64 0, .int .i64 0, .int .i64 0] 27) = w1 at H1 cC ⊢
  generalize hg4 : w.heap.size = g4 at H1 ⊢
  have HG4 := Lib.hid hg4
  clear hg4
  go_wp2_with fail
  refine cC.out.mono ?_; rintro en w2 ⟨rfl, hb2⟩
  have H2 := Lib.hid (H1.out.later hb2)
  have HR2 := Lib.hid (HR.out.below H2.out.below)
  have HS0 := Lib.hid (st_new w2 sz)
  clear cC hb2 H1
  go_upto_region 5 with (fail)
  generalize w2.alloc (.cells #[.int .i64 (sz : Int), .slice none 0 0, .slice none 0 0, .int .i64 0, .int .i64 0, .int .i64 0, .int .i64 0, .int .i64 0, .int .i64 0, .int .i64 0, .int .i64 0, .int .i64 0, .int .i64 0, .int .i64 0, .int .i64 0, .int .i64 0, .int .i64 0, .int .i64 0, .int .i64 0, .int .i64 0, .int .i64 0] 83) = w3 at HS0 ⊢
  have hgc : w2.heap.size = w2.heap.size := rfl
  generalize w2.heap.size = gc at HS0 ⊢
  clear hgc
  go_wp2
  go_loopg [27] n (fun q i wr => ∃ (k : Nat) (cs : Cs), k ≤ n ∧ q = n - k ∧ i = .int .i64 (k : Int) ∧ Hid (Ok sz cs) ∧ Hid (Bd cs k) ∧ Hid (Plays sz cs (ops.drop k) cf) ∧ St w2 wr gc sz cs)
  case atStart => exact ⟨0, C0, Nat.zero_le _, rfl, rfl, HOK0, Lib.hid bd0, HF, HS0.out⟩
  case round =>
    clear HF HS0 HOK0
    obtain ⟨k, cs, hk, rfl, rfl, HOK, HBD, HF, hs⟩ := hrel
    have HS := Lib.hid hs
    clear hs
    by_cases hlt : k < n
    · obtain ⟨b, off, rfl, hb, hc⟩ := HR2.out.at_ O.len (by omega)
      obtain ⟨o, ho⟩ : ∃ o, ops[k]? = some o := ⟨_, List.getElem?_eq_getElem (by rw [HL.out]; exact hlt)⟩
      have hbb : b < w2.heap.size := Nat.lt_of_lt_of_le hb H2.out.below.size
      have q0 : wr.cell? ⟨b, off + k * 3, none⟩ = some (.int .i64 o.kind) := (HS.out.below.cell hbb).trans (hc k 0 o _ ho rfl)
      have q1 : wr.cell? ⟨b, off + k * 3 + 1, none⟩ = some (.int .i64 o.page) := (HS.out.below.cell hbb).trans (hc k 1 o _ ho rfl)
      have q2 : wr.cell? ⟨b, off + k * 3 + 2, none⟩ = some (.int .i64 o.data) := (HS.out.below.cell hbb).trans (hc k 2 o _ ho rfl)
      have i0 : (0 : Int) ≤ (k : Int) := by omega
      have i1 : (k : Int) < (n : Int) := by omega
      obtain ⟨c1, HWAY, HP2⟩ : ∃ c1, Hid (Way sz cs o c1) ∧ Hid (Plays sz c1 (ops.drop (k + 1)) cf) := by
        have h1 := HF.out
        rw [drop_at ho] at h1
        cases h1 with
        | cons hw hp => exact ⟨_, Lib.hid hw, Lib.hid hp⟩
      have HGO : Hid (Good o) := Lib.hid (HG.out o (List.mem_of_getElem? ho))
      clear hc ho HF hb hbb
      go_upto_region 8 with (fail)
      have cD := Lib.hid (do_any gc sz k o cs c1 w2 _ (HS.out.later ((Below.refl _ _).alloc (Nat.le_refl _) (.cells #[.int .i64 o.kind, .int .i64 o.page, .int .i64 o.data] 33))) HOK.out h16 HGO.out HWAY.out HBD.out (by omega))
      have p0 := (Blk.new wr 33 o.cells).cell (k := 0) rfl
      have p1 := (Blk.new wr 33 o.cells).cell (k := 1) rfl
      have p2 := (Blk.new wr 33 o.cells).cell (k := 2) rfl
      unfold O.cells at p0 p1 p2
      clear q0 q1 q2 HS
      generalize wr.alloc (.cells #[.int .i64 o.kind, .int .i64 o.page, .int .i64 o.data] 33) = wo at cD p0 p1 p2 ⊢
      generalize wr.heap.size = gx at p0 p1 p2 ⊢
      go_wp2_with fail
      refine cD.out.mono ?_; rintro en w5 ⟨rfl, hs5⟩
      have HS5 := Lib.hid hs5
      clear hs5 cD p0 p1 p2
      go_wp2
      go_roundg (n - (k + 1))
      case measure => omega
      case rel => exact ⟨k + 1, c1, by omega, rfl, by go_num, Lib.hid (way_ok HOK.out HGO.out h1 HWAY.out), Lib.hid (way_bd HOK.out h16 HBD.out HWAY.out), HP2, HS5.out⟩
    · obtain rfl : k = n := by omega
      have hF := HF.out
      rw [List.drop_of_length_le (by rw [HL.out]; omega)] at hF
      cases hF
      obtain ⟨A, cc, Ar, cr, bl, J, hbl, hcc, K⟩ := HS.out
      have HJ := Lib.hid (H2.out.join K)
      have HOO := Lib.hid HOK.out
      have hB := Lib.hid (HJ.out.blk 0 rfl)
      have hrg : Hid (wr.rangeAt gc 2 (cdc (.slice Ar cf.rd.length cr) cf.f cf.s cf.st)) := Lib.hid (fun j v hv => HJ.out.cell 1 rfl (k := 2 + j) (by rw [cdc_mid]; exact hv))
      have hsz : Hid ((Tryz.prog.info? 27).map (·.size) = some (cdc (.slice Ar cf.rd.length cr) cf.f cf.s cf.st).length) := Lib.hid (by rw [cdc_len HOO.out.st]; exact info64)
      have hsa : Hid ((Tryz.prog.info? 27).map (·.size) = some (cdc (.slice Ar cf.rd.length cr) cf.f cf.s cf.st).toArray.size) := Lib.hid (by rw [List.size_toArray]; exact hsz.out)
      have HW := Lib.hid (HJ.out.whole 0 rfl (cdc (.slice Ar cf.rd.length cr) cf.f cf.s cf.st))
      clear K hbl hcc
      go_wp2_with (first | (refine wpList_load_mid rfl 27 (.tmp 37) rfl gc 2 rfl _ _ hrg.out Tryz.underlying27 rfl hsz.out ?_) | (refine wpList_store_row rfl 27 (.tmp 4) (.tmp 38) rfl g4 _ rfl rfl 27 Z0.toArray hB.out hsa.out (by rw [List.size_toArray, List.size_toArray, cdc_len HOO.out.st]; rfl) cdc_one ?_))
      have hld : (loadVar 27 ⟨g4, 0, none⟩).run Tryz.prog (wr.setRow g4 (cdc (.slice Ar cf.rd.length cr) cf.f cf.s cf.st).toArray) = .ok (.agg (cdc (.slice Ar cf.rd.length cr) cf.f cf.s cf.st).toArray) _ :=
        run_loadVar_row _ g4 27 27 _ (0, 0) _ (HW.out.blk 0 rfl) Tryz.underlying27 rfl hsa.out
      refine bodyPost_ret (v := .tuple #[.agg (cdc (.slice Ar cf.rd.length cr) cf.f cf.s cf.st).toArray, .int .i64 0]) (by simp [results, Tryz.results6, asAddr, hld]) rfl ?_
      exact ⟨Ar, cr, rfl, HW.out.pick [3] (by decide) (by simp)⟩
end Ca
end Go.Proofs.YtjopiepfjbnkbaaGreatDoor
