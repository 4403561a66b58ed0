/-
  Walk of cache.do: write back all, write, read. Conditions: none beyond each theorem's own premises.
-/
import Derived.Test.YtjopiepfjbnkbaaGreatDoorCaW2
import Derived.Test.YtjopiepfjbnkbaaGreatDoorBase
namespace Go.Proofs.YtjopiepfjbnkbaaGreatDoor
open Go.RowKit Go.Shelf
set_option linter.unusedVariables false
namespace Ca

abbrev rdI (A : Option Addr) (n c : Nat) (rd : List Int) : It := .row 3 1 (.slice A n c) n (rd.flatMap icell)
abbrev opI (g : Nat) (k p d : Int) : It := .cells g 33 [.int .i64 k, .int .i64 p, .int .i64 d]
def St (w0 w : World) (gc sz : Nat) (c : Cs) : Prop := ∃ A cc Ar cr bl J, bl.length = c.L.length ∧ c.L.length ≤ cc ∧
  Sep w0 w (ccI gc (.int .i64 (sz : Int)) (.slice A c.L.length cc) (.slice Ar c.rd.length cr) c.f c.s c.st :: ptI A c.L.length cc bl :: rdI Ar c.rd.length cr c.rd :: (objs bl c.L ++ J))
def UsePost (w0 : World) (gc sz : Nat) (v2 : Value) (f : Nat) (X : It) (J : List It) (b : Bool) (l : List Pg) (p : Pg) (s : Nat) (st : List Int) (e : Ending) (w' : World) : Prop :=
  ∃ A' c' bl' g K, e = .returned (.tuple #[.pointer (some ⟨g, 0, none⟩), .bool b]) ∧ bl'.length = l.length ∧ l.length + 1 ≤ c' ∧
    Sep w0 w' (ccI gc (.int .i64 (sz : Int)) (.slice A' (l.length + 1) c') v2 f s st :: ptI A' (l.length + 1) c' (bl' ++ [g]) :: X :: (objs (bl' ++ [g]) (l ++ [p]) ++ (J ++ K)))

inductive U (sz : Nat) (L : List Pg) (s : Nat) (st : List Int) (np : Nat) : Bool → List Pg → Pg → Nat → List Int → Prop
  | hit {i : Nat} {p : Pg} (hi : L[i]? = some p) (hp : p.n = np) : U sz L s st np true (L.eraseIdx i) p s st
  | room (ho : ∀ q ∈ L, q.n ≠ np) (hl : L.length < sz) : U sz L s st np false L ⟨np, 0, false⟩ s st
  | full {q : Pg} {t : List Pg} (ho : ∀ x ∈ L, x.n ≠ np) (hl : L.length = sz) (hq : L = q :: t) : U sz L s st np false t ⟨np, 0, false⟩ (s + cnt1 q) (put1 q st)

theorem use_u {gc sz f s np n cc : Nat} {A : Option Addr} {v2 : Value} {st : List Int} {bl : List Nat} {L : List Pg} {X : It} {J : List It} {w0 w : World} {b : Bool} {l : List Pg} {p : Pg} {s' : Nat} {st' : List Int} (hU : U sz L s st np b l p s' st')
    (hs : Sep w0 w (ccI gc (.int .i64 (sz : Int)) (.slice A L.length cc) v2 f s st :: ptI A L.length cc bl :: X :: (objs bl L ++ J))) (hbl : bl.length = L.length) (hn : L.length ≤ 16) (hc : L.length ≤ cc) (hlow : ∀ p ∈ L, p.n < 16) (hnd : (L.map Pg.n).Nodup) (hst : st.length = 16) (hb : s < 140737488355328) :
    Calls Tryz.prog 42 #[.pointer (some ⟨gc, 0, none⟩), .int .i64 (np : Int)] w (UsePost w0 gc sz v2 f X J b l p s' st') := by
  cases hU with
  | @hit i p hi hp =>
    have hil := (List.getElem?_eq_some_iff.1 hi).1
    obtain ⟨g, hg⟩ : ∃ g, bl[i]? = some g := ⟨_, List.getElem?_eq_getElem (by omega)⟩
    have hl : (L.eraseIdx i).length + 1 = L.length := by rw [List.length_eraseIdx, if_pos hil]; omega
    refine (use_hit gc sz L.length (L.length - 1) i g cc f s np A v2 st bl L p X J w0 w hs hbl rfl hn (by omega) hc hg hi hp (fun k q hk hq e => ?_)).mono ?_
    · have h1 : (L.map Pg.n)[k]? = some q.n := by rw [List.getElem?_map, hq]; rfl
      have h2 : (L.map Pg.n)[i]? = some p.n := by rw [List.getElem?_map, hi]; rfl
      have := (List.getElem?_inj (by rw [List.length_map]; omega) hnd).1 (h1.trans ((by rw [h2, hp, e] : (L.map Pg.n)[i]? = some q.n).symm))
      omega
    · rintro e w' ⟨A', c', K, he, hc', H⟩
      refine ⟨A', c', bl.eraseIdx i, g, K, he, by rw [List.length_eraseIdx, List.length_eraseIdx, hbl], by omega, ?_⟩
      rw [hl]
      exact H
  | room ho hl =>
    refine (use_room gc sz L.length cc f s np A v2 st bl L X J w0 w hs hbl rfl hn hl ho).mono ?_
    rintro e w' ⟨A', c', g, he, hc', H⟩
    exact ⟨A', c', bl, g, [], he, hbl, hc', by rw [List.append_nil]; exact H⟩
  | @full q t ho hl hq =>
    subst hq hl
    obtain ⟨gq, bt, rfl⟩ : ∃ gq bt, bl = gq :: bt := by
      cases bl with
      | nil => simp at hbl
      | cons gq bt => exact ⟨gq, bt, rfl⟩
    have hbt : bt.length = l.length := by simpa using hbl
    refine (use_full gc (l.length + 1) l.length cc f s np gq A v2 st bt q l X J w0 w hs hbt rfl (by simpa using hn) rfl (by simpa using hc) ho (hlow q (by simp)) hst hb).mono ?_
    rintro e w' ⟨A', c', g, he, hc', H⟩
    exact ⟨A', c', bt, g, [], he, hbt, hc', by rw [List.append_nil]; exact H⟩

theorem use_front {w0 w : World} {a b c o : It} {bl : List Nat} {l : List Pg} {g : Nat} {p : Pg} {J K : List It} (hbl : bl.length = l.length) (H : Sep w0 w (a :: b :: c :: (objs (bl ++ [g]) (l ++ [p]) ++ ((J ++ [o]) ++ K)))) :
    Sep w0 w (a :: b :: c :: pgI g p :: o :: (objs bl l ++ (J ++ K))) := by
  refine H.perm (List.Perm.cons _ (List.Perm.cons _ (List.Perm.cons _ ?_)))
  rw [objs_snoc hbl]
  simp only [List.append_assoc, List.singleton_append]
  refine (List.Perm.trans ?_ List.perm_middle.symm)
  refine List.Perm.cons _ ?_
  rw [← List.append_assoc, ← List.append_assoc]
  exact List.perm_middle.symm
theorem st_close {w0 w : World} {gc sz cc cr f s g : Nat} {A Ar : Option Addr} {rd st : List Int} {bl : List Nat} {l : List Pg} {p : Pg} {o : It} {J : List It} (hbl : bl.length = l.length) (hc : l.length + 1 ≤ cc)
    (H : Sep w0 w (ccI gc (.int .i64 (sz : Int)) (.slice A (l.length + 1) cc) (.slice Ar rd.length cr) f s st :: ptI A (l.length + 1) cc (bl ++ [g]) :: rdI Ar rd.length cr rd :: pgI g p :: o :: (objs bl l ++ J))) : St w0 w gc sz ⟨l ++ [p], rd, f, s, st⟩ := by
  have hl : (l ++ [p]).length = l.length + 1 := by simp
  refine ⟨A, cc, Ar, cr, bl ++ [g], J, by simp [hbl], by simpa using hc, ?_⟩
  simp only [hl]
  have K := H.sub (List.Sublist.cons_cons _ (List.Sublist.cons_cons _ (List.Sublist.cons_cons _ (List.Sublist.cons_cons _ (List.sublist_cons_self _ _)))))
  refine K.perm (List.Perm.cons _ (List.Perm.cons _ (List.Perm.cons _ ?_)))
  rw [objs_snoc hbl, List.append_assoc]
  exact List.perm_middle

set_option maxRecDepth 100000 in
set_option maxHeartbeats 3200000 in
theorem do_write (gc sz np : Nat) (d : Int) (c : Cs) (b : Bool) (l : List Pg) (p : Pg) (s' : Nat) (st' : List Int) (w0 w : World) (hs : St w0 w gc sz c) (hc : Ok sz c) (hz : sz ≤ 16) (hU : U sz c.L c.s c.st np b l p s' st') (hb : c.s < 140737488355328) :
    Calls Tryz.prog 20 #[.pointer (some ⟨gc, 0, none⟩), .agg #[.int .i64 2, .int .i64 (np : Int), .int .i64 d]] w (fun e w' => e = .returned (.tuple #[]) ∧ St w0 w' gc sz ⟨l ++ [⟨p.n, d, true⟩], c.rd, c.f, s', st'⟩) := by
  obtain ⟨A, cc, Ar, cr, bl, J, hbl, hcc, H0⟩ := hs
  have hk := hc.len
  have hU2 : ∀ W, Sep w0 W (ccI gc (.int .i64 (sz : Int)) (.slice A c.L.length cc) (.slice Ar c.rd.length cr) c.f c.s c.st :: ptI A c.L.length cc bl :: rdI Ar c.rd.length cr c.rd :: (objs bl c.L ++ (J ++ [opI w.heap.size 2 np d]))) → Calls Tryz.prog 42 #[.pointer (some ⟨gc, 0, none⟩), .int .i64 (np : Int)] W (UsePost w0 gc sz (.slice Ar c.rd.length cr) c.f (rdI Ar c.rd.length cr c.rd) (J ++ [opI w.heap.size 2 np d]) b l p s' st') := fun W H => use_u (n := 0) hU H hbl (by omega) hcc hc.low hc.nd hc.st hb
  have HU := Lib.hid hU2
  have H0' := Lib.hid H0
  clear hU2 H0 hc hU hk
  go_enter Tryz.func20, Tryz.ntmps20
  go_upto_region 1 with (fail)
  have HN0 := H0'.out.new 33 [.int .i64 2, .int .i64 np, .int .i64 d]
  have H1 : Hid (Sep w0 (w.alloc (.cells #[.int .i64 2, .int .i64 (np : Int), .int .i64 d] 33)) (ccI gc (.int .i64 (sz : Int)) (.slice A c.L.length cc) (.slice Ar c.rd.length cr) c.f c.s c.st :: ptI A c.L.length cc bl :: rdI Ar c.rd.length cr c.rd :: (objs bl c.L ++ (J ++ [opI w.heap.size 2 np d])))) := Lib.hid (by rw [← List.append_assoc]; exact HN0)
  have f0 := (Blk.new w 33 [.int .i64 2, .int .i64 (np : Int), .int .i64 d]).cell (k := 0) rfl
  have f1 := (Blk.new w 33 [.int .i64 2, .int .i64 (np : Int), .int .i64 d]).cell (k := 1) rfl
  have cU := Lib.hid (HU.out _ H1.out)
  clear H0' HN0 HU H1
  generalize w.alloc (.cells #[.int .i64 2, .int .i64 (np : Int), .int .i64 d] 33) = w1 at f0 f1 cU ⊢
  generalize w.heap.size = gx at f0 f1 cU ⊢
  go_wp2_with fail
  refine cU.out.mono ?_; rintro en w3 ⟨A6, c6, bl6, g, K, rfl, hbp, hcp, H3'⟩
  have H3 := Lib.hid (use_front hbp H3')
  have HBP := Lib.hid hbp
  have HCP := Lib.hid hcp
  clear H3' hbp hcp cU f0 f1
  have f0 := H3.out.cell 4 rfl (k := 0) rfl
  go_upto_region 9 with (fail)
  have e1 := H3.out.cell 3 rfl (k := 1) rfl
  have u1 := H3.out.froz 3 rfl (k := 1)
  have u2 := H3.out.froz 3 rfl (k := 2)
  have e2 := H3.out.cell 3 rfl (k := 2) rfl
  have f2 := H3.out.cell 4 rfl (k := 2) rfl
  have H9 := Lib.hid ((H3.out.set 3 rfl (k := 1) (.int .i64 d)).set 3 rfl (k := 2) (.bool true))
  clear H3
  go_wp2
  refine bodyPost_ret (v := .tuple #[]) (by simp [results, Tryz.results20]) rfl ?_
  exact ⟨rfl, st_close HBP.out HCP.out H9.out⟩
end Ca
end Go.Proofs.YtjopiepfjbnkbaaGreatDoor
