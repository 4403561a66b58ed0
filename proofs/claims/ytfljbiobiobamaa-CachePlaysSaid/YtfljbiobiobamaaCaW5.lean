/-
  Walk of cache.do: write back all; every way through one operation. Conditions: none beyond each theorem's own premises.
-/
import Derived.Test.YtfljbiobiobamaaCaW4
namespace Go.Proofs.Ytfljbiobiobamaa
open Go.RowKit Go.Shelf
set_option linter.unusedVariables false
namespace Ca
/-- the first k written back -/
def fl (k : Nat) (L : List Pg) : List Pg := (L.take k).map Pg.clean ++ L.drop k
theorem fl_len (k : Nat) (L : List Pg) : (fl k L).length = L.length := by
  unfold fl
  rw [List.length_append, List.length_map, List.length_take, List.length_drop]
  omega
theorem fl_at {L : List Pg} {k : Nat} {p : Pg} (h : L[k]? = some p) : (fl k L)[k]? = some p := by
  have hk := (List.getElem?_eq_some_iff.1 h).1
  unfold fl
  rw [List.getElem?_append_right (by rw [List.length_map, List.length_take]; omega), List.length_map, List.length_take, List.getElem?_drop, show k + (k - min k L.length) = k by omega]
  exact h
theorem fl_set {L : List Pg} {k : Nat} {p : Pg} (h : L[k]? = some p) : (fl k L).set k p.clean = fl (k + 1) L := by
  have hk := (List.getElem?_eq_some_iff.1 h).1
  have hx := (List.getElem?_eq_some_iff.1 h).2
  unfold fl
  rw [List.set_append_right _ _ (by rw [List.length_map, List.length_take]; omega), List.length_map, List.length_take, show k - min k L.length = 0 by omega, List.drop_eq_getElem_cons hk, hx, List.set_cons_zero, List.take_add_one, h]
  simp
theorem take_n {L : List Pg} {k : Nat} {p : Pg} (h : L[k]? = some p) : flushN (L.take (k + 1)) = flushN (L.take k) + cnt1 p := by
  unfold flushN
  rw [List.take_add_one, h]
  simp
theorem take_s {L : List Pg} {k : Nat} {p : Pg} (st : List Int) (h : L[k]? = some p) : flushS (L.take (k + 1)) st = put1 p (flushS (L.take k) st) := by
  unfold flushS
  rw [List.take_add_one, h]
  simp
theorem objs_set {bl : List Nat} {L : List Pg} {k g : Nat} {p : Pg} (h : bl[k]? = some g) : (objs bl L).set k (pgI g p) = objs bl (L.set k p) := by
  unfold objs
  refine List.ext_getElem? fun j => ?_
  rw [List.getElem?_set, List.getElem?_zipWith, List.getElem?_zipWith, List.getElem?_set, List.length_zipWith]
  by_cases hkj : k = j
  · subst hkj
    have hb := (List.getElem?_eq_some_iff.1 h).1
    rw [if_pos rfl, if_pos rfl, h]
    by_cases h2 : k < L.length
    · rw [if_pos (by omega), if_pos h2]
    · rw [if_neg (by omega), if_neg h2]
  · rw [if_neg hkj, if_neg hkj]
theorem objs_len {bl : List Nat} {L : List Pg} (h : bl.length = L.length) : (objs bl L).length = L.length := by
  unfold objs
  rw [List.length_zipWith, h, Nat.min_self]

set_option maxRecDepth 100000 in
set_option maxHeartbeats 3200000 in
theorem do_flush (gc sz : Nat) (pg d : Int) (c : Cs) (w0 w : World) (hs : St w0 w gc sz c) (hc : Ok sz c) (hz : sz ≤ 16) (hb : c.s + 16 < 140737488355328) :
    Calls Try.prog 22 #[.pointer (some ⟨gc, 0, none⟩), .agg #[.int .i64 3, .int .i64 pg, .int .i64 d]] w (fun e w' => e = .returned (.tuple #[]) ∧ St w0 w' gc sz ⟨c.L.map Pg.clean, c.rd, c.f, c.s + flushN c.L, flushS c.L c.st⟩) := by
  obtain ⟨A, cc, Ar, cr, bl, J, hbl, hcc, H0⟩ := hs
  obtain ⟨n, hn⟩ : ∃ n, n = c.L.length := ⟨_, rfl⟩
  rw [← hn] at H0 hcc hbl
  have hn16 : n ≤ 16 := by have := hc.len; omega
  have HN := Lib.hid hn
  have HC := Lib.hid hc
  have HBL := Lib.hid hbl
  have H0' := Lib.hid H0
  clear H0 hc hn hbl
  go_enter Try.func22, Try.ntmps22
  go_upto_region 1 with (fail)
  have H1 := Lib.hid (H0'.out.alloc (.cells #[.int .i64 3, .int .i64 pg, .int .i64 d] 59))
  have f0 := (Blk.new w 59 [.int .i64 3, .int .i64 pg, .int .i64 d]).cell (k := 0) rfl
  clear H0'
  generalize w.alloc (.cells #[.int .i64 3, .int .i64 pg, .int .i64 d] 59) = w1 at f0 H1 ⊢
  generalize w.heap.size = gx at f0 ⊢
  have c1 := H1.out.cell 0 rfl (k := 1) rfl
  go_wp2
  go_loopg [16] n (fun q i wr => ∃ (k : Nat), k ≤ n ∧ q = n - k ∧ i = .int .i64 (k : Int) ∧
    Sep w0 wr (ccI gc (.int .i64 (sz : Int)) (.slice A n cc) (.slice Ar c.rd.length cr) c.f (c.s + flushN (c.L.take k)) (flushS (c.L.take k) c.st) :: ptI A n cc bl :: rdI Ar c.rd.length cr c.rd :: (objs bl (fl k c.L) ++ J)))
  case atStart => exact ⟨0, Nat.zero_le _, rfl, rfl, H1.out⟩
  case round =>
    clear H1 c1 f0
    obtain ⟨k, hk, rfl, rfl, hs⟩ := hrel
    have HS := Lib.hid hs
    clear hs
    by_cases hlt : k < n
    · obtain ⟨p, hp⟩ : ∃ p, c.L[k]? = some p := ⟨_, List.getElem?_eq_getElem (by rw [← HN.out]; exact hlt)⟩
      obtain ⟨g, hg⟩ : ∃ g, bl[k]? = some g := ⟨_, List.getElem?_eq_getElem (by rw [HBL.out]; exact hlt)⟩
      obtain ⟨b, hA, _, hat⟩ := HS.out.rowAt 1 rfl (by omega)
      cases hA
      have e1 : wr.cell? ⟨b, k, none⟩ = some (.pointer (some ⟨g, 0, none⟩)) := (hat k).1 _ (pcell_at hg)
      have i0 : (0 : Int) ≤ (k : Int) := by omega
      have i1 : (k : Int) < (n : Int) := by omega
      have hob := objs_at hg (fl_at hp)
      have hol := (List.getElem?_eq_some_iff.1 hob).1
      have hsum : flushN (c.L.take k) ≤ 16 := by
        have := sum_le (c.L.take k)
        rw [List.length_take] at this
        omega
      have cC := Lib.hid (clean_any gc g (k + 2) c.f (c.s + flushN (c.L.take k)) _ _ _ (flushS (c.L.take k) c.st) p _ w0 wr HS.out (by
        rw [List.getElem?_cons_succ, List.getElem?_cons_succ, List.getElem?_append, if_pos hol]
        exact hob) (HC.out.low p (List.mem_of_getElem? hp)) (by rw [flush_len]; exact HC.out.st) (by omega))
      have HP := Lib.hid hp
      have HG := Lib.hid hg
      have HOL := Lib.hid hol
      clear hat hob hol hsum hp hg
      go_wp2_with fail
      refine cC.out.mono ?_; rintro en w2 ⟨rfl, K2⟩
      have H2 : Hid (Sep w0 w2 (ccI gc (.int .i64 (sz : Int)) (.slice (some ⟨b, 0, none⟩) n cc) (.slice Ar c.rd.length cr) c.f (c.s + flushN (c.L.take (k + 1))) (flushS (c.L.take (k + 1)) c.st) :: ptI (some ⟨b, 0, none⟩) n cc bl :: rdI Ar c.rd.length cr c.rd :: (objs bl (fl (k + 1) c.L) ++ J))) := Lib.hid (by
        rw [List.set_cons_succ, List.set_cons_succ, List.set_append_left _ _ HOL.out, objs_set HG.out, fl_set HP.out] at K2
        rw [take_n HP.out, take_s _ HP.out, ← Nat.add_assoc]
        exact K2)
      clear K2 e1 HS
      go_wp2
      go_roundg (n - (k + 1))
      case measure => omega
      case rel => exact ⟨k + 1, by omega, rfl, by go_num, H2.out⟩
    · obtain rfl : k = n := by omega
      go_wp2
      refine bodyPost_ret (v := .tuple #[]) (by simp [results, Try.results22]) rfl ?_
      refine ⟨rfl, A, cc, Ar, cr, bl, J, ?_, ?_, ?_⟩
      · simp only [List.length_map]
        rw [HBL.out, HN.out]
      · simp only [List.length_map]
        rw [← HN.out]
        exact hcc
      · have := HS.out
        have e1 : c.L.take k = c.L := by rw [HN.out, List.take_length]
        have e2 : fl k c.L = c.L.map Pg.clean := by unfold fl; rw [e1, HN.out, List.drop_length, List.append_nil]
        rw [e1, e2] at this
        simp only [List.length_map]
        rw [← HN.out]
        exact this

theorem out_u {L : List Pg} {n : Nat} {page : Int} (hn : (n : Int) = page) (ho : Out L page) : ∀ q ∈ L, q.n ≠ n := fun q hq e => ho q hq (by rw [e, hn])
theorem do_any (gc sz b : Nat) (o : O) (c c' : Cs) (w0 w : World) (hs : St w0 w gc sz c) (hc : Ok sz c) (hz : sz ≤ 16) (hg : Good o) (hw : Way sz c o c') (hb : Bd c b) (hb2 : b ≤ 5864062014806) :
    Calls Try.prog 22 #[.pointer (some ⟨gc, 0, none⟩), .agg #[.int .i64 o.kind, .int .i64 o.page, .int .i64 o.data]] w (fun e w' => e = .returned (.tuple #[]) ∧ St w0 w' gc sz c') := by
  obtain ⟨kd, pg, d⟩ := o
  obtain ⟨g1, g2, g3, g4⟩ := hg
  obtain ⟨b1, b2, b3⟩ := hb
  simp only at g1 g2 g3 g4
  cases hw with
  | flush hk => simp only at hk; subst hk; exact do_flush gc sz pg d c w0 w hs hc hz (by omega)
  | @hitR i p hk hi hp =>
    simp only at hk hp; subst hk hp
    exact do_read_hit gc sz p.n d c _ p _ _ w0 w hs hc hz (.hit hi rfl) (by omega) (by omega)
  | @hitW i p hk hi hp =>
    simp only at hk hp; subst hk hp
    exact do_write gc sz p.n d c true _ p _ _ w0 w hs hc hz (.hit hi rfl) (by omega)
  | @missR n x hk hn ho hl hx =>
    simp only at hk hn; subst hk hn
    exact do_read_miss gc sz n d x c _ _ _ w0 w hs hc hz (.room (out_u rfl ho) hl) (by omega) (by omega) (by omega) (by omega) hx
  | @missW n hk hn ho hl =>
    simp only at hk hn; subst hk hn
    exact do_write gc sz n d c false _ _ _ _ w0 w hs hc hz (.room (out_u rfl ho) hl) (by omega)
  | @fullR n x q t hk hn ho hl hq hx =>
    simp only at hk hn; subst hk hn
    exact do_read_miss gc sz n d x c _ _ _ w0 w hs hc hz (.full (out_u rfl ho) hl hq) (by omega) (by omega) (by omega) (by omega) hx
  | @fullW n q t hk hn ho hl hq =>
    simp only at hk hn; subst hk hn
    exact do_write gc sz n d c false _ _ _ _ w0 w hs hc hz (.full (out_u rfl ho) hl hq) (by omega)
end Ca
end Go.Proofs.Ytfljbiobiobamaa
