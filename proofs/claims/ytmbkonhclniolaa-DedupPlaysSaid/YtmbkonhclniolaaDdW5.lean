/-
  Walk of the reference's WPlay. Conditions: none beyond the theorem's own premises.
-/
import Derived.Test.YtmbkonhclniolaaDdW4
import Derived.Test.YtmbkonhclniolaaTail
import Derived.Test.YtmbkonhclniolaaParse
import Derived.Test.YtmbkonhclniolaaInv
import Derived.Test.YtmbkonhclniolaaStrB
namespace Go.Proofs.Ytmbkonhclniolaa
open Go.RowKit
set_option linter.unusedVariables false
namespace Dd

def dcell (p : ByteArray × Nat) : List Value := [.string p.1]
def rcell (p : ByteArray × Nat) : List Value := [.int .i64 (p.2 : Int)]
theorem dcell_len : ∀ p, (dcell p).length = 1 := fun _ => rfl
theorem rcell_len : ∀ p, (rcell p).length = 1 := fun _ => rfl
theorem dcell_at {l : S} {k r : Nat} {d : ByteArray} (h : l[k]? = some (d, r)) : (l.flatMap dcell)[k]? = some (.string d) := by
  have := flat_get dcell_len l k 0 _ h (by omega)
  rw [Nat.mul_one, Nat.add_zero] at this
  exact this
theorem rcell_at {l : S} {k r : Nat} {d : ByteArray} (h : l[k]? = some (d, r)) : (l.flatMap rcell)[k]? = some (.int .i64 (r : Int)) := by
  have := flat_get rcell_len l k 0 _ h (by omega)
  rw [Nat.mul_one, Nat.add_zero] at this
  exact this
theorem str_info : (Try.prog.info? 9).map (fun i => (i.zero, i.size, i.bytes)) = some (some (.string { data := #[] }), 1, 16) := by kernel_rfl
theorem int_info : (Try.prog.info? 3).map (fun i => (i.zero, i.size, i.bytes)) = some (some (.int .i64 0), 1, 8) := by kernel_rfl
theorem dcell_map (l : S) : l.flatMap dcell = l.map (fun p => Value.string p.1) := by
  induction l with
  | nil => rfl
  | cons x l ih => rw [List.flatMap_cons, ih]; rfl
theorem rcell_map (l : S) : l.flatMap rcell = l.map (fun p => Value.int .i64 (p.2 : Int)) := by
  induction l with
  | nil => rfl
  | cons x l ih => rw [List.flatMap_cons, ih]; rfl
theorem rcell_set {l : S} {i : Nat} (hi : i < l.length) (d : ByteArray) (r : Nat) : (l.flatMap rcell).set i (.int .i64 (r : Int)) = (l.set i (d, r)).flatMap rcell := by
  rw [rcell_map, rcell_map, List.map_set]
theorem dcell_set {l : S} {i : Nat} (hi : i < l.length) (d : ByteArray) (r : Nat) : (l.flatMap dcell).set i (.string d) = (l.set i (d, r)).flatMap dcell := by
  rw [dcell_map, dcell_map, List.map_set]
theorem dcell_keep {l : S} {i r : Nat} {d : ByteArray} (hi : l[i]? = some (d, r)) (r' : Nat) : l.flatMap dcell = (l.set i (d, r')).flatMap dcell := by
  rw [← dcell_set (List.getElem?_eq_some_iff.1 hi).1, set_same (dcell_at hi)]
theorem bytes_inj {a b : ByteArray} (h : a.toList = b.toList) : a = b := by
  rw [ByteArray.toList_eq, ByteArray.toList_eq] at h
  cases a
  cases b
  congr
  exact Array.ext' h
theorem bytes_ne {a b : ByteArray} (h : ¬ a = b) : (a.toList == b.toList) = false := by
  rw [beq_eq_false_iff_ne]
  exact fun e => h (bytes_inj e)
theorem live_take {l : S} {j r : Nat} {d : ByteArray} (h : l[j]? = some (d, r)) : live (l.take (j + 1)) = live (l.take j) + (if 0 < r then 1 else 0) := by
  rw [List.take_add_one, h]
  simp [live, List.countP_append, List.countP_cons]
/-- the least place of those from j on that is not kept; -1: there is none -/
def Lz (l : S) (j : Nat) (v : Int) : Prop := (v = -1 ∧ ∀ (i : Nat) (d : ByteArray), j ≤ i → l[i]? ≠ some (d, 0)) ∨
  ∃ (i : Nat) (d : ByteArray), v = (i : Int) ∧ j ≤ i ∧ l[i]? = some (d, 0) ∧ ∀ (i' : Nat) (d' : ByteArray), j ≤ i' → i' < i → l[i']? ≠ some (d', 0)
/-- the place below k that keeps d, or what was there ahead -/
def Fz (l : S) (d : ByteArray) (k : Nat) (v0 v : Int) : Prop := (v = v0 ∧ ∀ i r : Nat, i < k → l[i]? ≠ some (d, r + 1)) ∨ ∃ i r : Nat, i < k ∧ v = (i : Int) ∧ l[i]? = some (d, r + 1)
/-- is the id a place that is kept? -/
def thereB (l : S) (x : Int) (b : Bool) : Prop := b = true ↔ ∃ (i : Nat) (d : ByteArray) (r : Nat), l[i]? = some (d, r + 1) ∧ x = (i : Int) + 1

set_option maxRecDepth 100000 in
set_option maxHeartbeats 6400000 in
theorem wplay_any (Ad : Option Addr) (n c : Nat) (ops : List O) (as_ : List A) (lf : S) (w : World) (hr : Rd w w.heap.size 3 Ad n (ops.flatMap O.cells)) (hl : ops.length = n) (hn : n * 32 ≤ 140737488351232) (hp : Plays [] ops as_ lf)
    (hwf : ∀ o ∈ ops, (Lit.int .i64 o.id).wf = true) :
    Calls Try.prog 20 #[.slice Ad n c] w (PlayRet w n as_ lf) := by
  obtain ⟨ti, hti, t0, t1, t2⟩ := info_parts ans_info
  obtain ⟨si, hsi, s0, s1, s2⟩ := info_parts str_info
  obtain ⟨ii, hii, j0, j1, j2⟩ := info_parts int_info
  have HR := Lib.hid hr
  have HL := Lib.hid hl
  have HW := Lib.hid hwf
  have HF : Hid (∃ es', Plays [] (ops.drop 0) es' lf ∧ as_ = [] ++ es') := Lib.hid ⟨as_, hp, rfl⟩
  have S1 : Hid (Sep w w [.row 9 1 (.slice none 0 0) 0 (([] : S).flatMap dcell), .row 3 1 (.slice none 0 0) 0 (([] : S).flatMap rcell), .row 49 3 (.slice none 0 0) 0 (([] : List A).flatMap A.cells)]) := Lib.hid ((((Sep.nil_ w).nilRow 9 1 none).nilRow 3 1 none).nilRow 49 3 none)
  clear hr hl hp hwf
  go_enter Try.func20, Try.ntmps20
  go_wp2
  go_loopg [4, 5, 6, 20] n (fun q v4 v5 v6 i wr => ∃ (k : Nat) (A4 A5 A6 : Option Addr) (c4 c5 c6 : Nat) (l : S) (es : List A), k ≤ n ∧ q = n - k ∧ i = .int .i64 (k : Int) ∧ v4 = .slice A4 l.length c4 ∧ v5 = .slice A5 l.length c5 ∧ v6 = .slice A6 k c6 ∧ Hid (es.length = k) ∧ Hid (Ok l) ∧ Hid (Sz l) ∧ Hid (Bd l k) ∧
    Hid (∃ es', Plays l (ops.drop k) es' lf ∧ as_ = es ++ es') ∧ Sep w wr [.row 9 1 (.slice A4 l.length c4) l.length (l.flatMap dcell), .row 3 1 (.slice A5 l.length c5) l.length (l.flatMap rcell), .row 49 3 (.slice A6 k c6) k (es.flatMap A.cells)])
  case atStart => exact ⟨0, none, none, none, 0, 0, 0, [], [], Nat.zero_le _, rfl, rfl, rfl, rfl, rfl, Lib.hid rfl, Lib.hid (by intro i j d r r' h; simp at h), Lib.hid (by intro i d r h; simp at h), Lib.hid ⟨Nat.le_refl _, by simp⟩, HF, S1.out⟩
  case round =>
    clear HF S1
    obtain ⟨k, A4, A5, A6, c4, c5, c6, l, es, hk, rfl, rfl, rfl, rfl, rfl, HEL, HOK, HSZ, HBD, HF, hs⟩ := hrel
    have HS := Lib.hid hs
    clear hs
    by_cases hlt : k < n
    · obtain ⟨b, off, rfl, hb, hc⟩ := HR.out.at_ O.len (by omega)
      obtain ⟨o, ho⟩ : ∃ o, ops[k]? = some o := ⟨_, List.getElem?_eq_getElem (by rw [HL.out]; exact hlt)⟩
      have q0 : wr.cell? ⟨b, off + k * 3, none⟩ = some (.int .i64 o.kind) := (HS.out.below.cell hb).trans (hc k 0 o _ ho rfl)
      have q1 : wr.cell? ⟨b, off + k * 3 + 1, none⟩ = some (.int .i64 o.id) := (HS.out.below.cell hb).trans (hc k 1 o _ ho rfl)
      have q2 : wr.cell? ⟨b, off + k * 3 + 2, none⟩ = some (.string o.data) := (HS.out.below.cell hb).trans (hc k 2 o _ ho rfl)
      have i0 : (0 : Int) ≤ (k : Int) := by omega
      have i1 : (k : Int) < (n : Int) := by omega
      have HWF : Hid ((Lit.int .i64 o.id).wf = true) := Lib.hid (HW.out o (List.mem_of_getElem? ho))
      obtain ⟨a, l1, es1, HWAY, HP2, HAS⟩ : ∃ a l1 es1, Hid (Way l o a l1) ∧ Hid (Plays l1 (ops.drop (k + 1)) es1 lf) ∧ Hid (as_ = (es ++ [a]) ++ es1) := by
        obtain ⟨es', h1, h2⟩ := HF.out
        rw [drop_at ho] at h1
        cases h1 with
        | cons hw hp => exact ⟨_, _, _, Lib.hid hw, Lib.hid hp, Lib.hid (by rw [h2]; simp)⟩
      have HEL2 : Hid ((es ++ [a]).length = k + 1) := Lib.hid (by rw [List.length_append, HEL.out]; rfl)
      have HOK2 := Lib.hid (way_ok HOK.out HWAY.out)
      have HSZ2 := Lib.hid (way_sz HSZ.out HWAY.out)
      have HBD2 := Lib.hid (way_bd HBD.out HWAY.out)
      have hbk : l.length ≤ k := HBD.out.1
      have HS2 : Hid (Sep w ((wr.alloc (.cells #[.int .i64 o.kind, .int .i64 o.id, .string o.data] 84)).alloc (.cells #[.int .i64 0, .int .i64 0, .string { data := #[] }] 49)) [.row 9 1 (.slice A4 l.length c4) l.length (l.flatMap dcell), .row 3 1 (.slice A5 l.length c5) l.length (l.flatMap rcell), .row 49 3 (.slice A6 k c6) k (es.flatMap A.cells), opC wr.heap.size o, anC (wr.heap.size + 1) zA]) := Lib.hid (by
        have h2 := (HS.out.new 84 [.int .i64 o.kind, .int .i64 o.id, .string o.data]).new 49 [.int .i64 0, .int .i64 0, .string nos]
        rw [show (wr.alloc (.cells (([.int .i64 o.kind, .int .i64 o.id, .string o.data] : List Value)).toArray 84)).heap.size = wr.heap.size + 1 by simp] at h2
        exact h2)
      clear hc ho HF
      go_upto_region 8 with (fail)
      clear HS q0 q1 q2
      generalize (wr.alloc (.cells #[.int .i64 o.kind, .int .i64 o.id, .string o.data] 84)).alloc (.cells #[.int .i64 0, .int .i64 0, .string { data := #[] }] 49) = wo at HS2 ⊢
      obtain ⟨gy, HGY⟩ : ∃ gy, Hid (gy = wr.heap.size + 1) := ⟨_, Lib.hid rfl⟩
      rw [← HGY.out] at HS2 ⊢
      generalize wr.heap.size = gx at HS2 ⊢
      clear HGY
      have p1 := HS2.out.cell 3 rfl (k := 1) rfl
      go_upto_region 9 with (fail)
      clear p1
      generalize hkz : wrap64 (o.id - 1) = kz
      have HKZ := Lib.hid hkz
      clear hkz
      obtain ⟨tb, HTB⟩ : ∃ tb, Hid (thereB l o.id tb) := by
        by_cases h : ∃ (i : Nat) (d : ByteArray) (r : Nat), l[i]? = some (d, r + 1) ∧ o.id = (i : Int) + 1
        · exact ⟨true, Lib.hid ⟨fun _ => h, fun _ => rfl⟩⟩
        · exact ⟨false, Lib.hid ⟨fun e => (by cases e), fun h' => absurd h' h⟩⟩
      have HKW : Hid (∀ i : Nat, i ≤ l.length → o.id = (i : Int) + 1 → kz = (i : Int)) := Lib.hid (fun i hi e => by rw [← HKZ.out, e, Int.add_sub_cancel]; exact IntWalk.wrap64_in _ ⟨by omega, by omega⟩)
      have HWB := Lib.hid (i64_bounds HWF.out)
      go_cut [11] (fun tv wc => tv = .bool tb ∧ wc = wo)
      case first =>
        have p1 := HS2.out.cell 3 rfl (k := 1) rfl
        by_cases hA : 0 < o.id
        · obtain ⟨ki, hki⟩ : ∃ ki : Nat, o.id = (ki : Int) + 1 := ⟨(o.id - 1).toNat, by omega⟩
          have hkz : kz = (ki : Int) := by
            rw [← HKZ.out, hki, Int.add_sub_cancel]
            have := HWB.out
            exact IntWalk.wrap64_in _ ⟨by omega, by omega⟩
          subst hkz
          have HKI := Lib.hid hki
          clear hki
          by_cases hB : ki < l.length
          · obtain ⟨⟨d, r⟩, hd⟩ : ∃ x, l[ki]? = some x := ⟨_, List.getElem?_eq_getElem hB⟩
            obtain ⟨g5, rfl, _, hat⟩ := HS2.out.rowAt 1 rfl (by omega)
            have e5 := (hat ki).1 _ (rcell_at hd)
            have m0 : (0 : Int) ≤ (ki : Int) := by omega
            clear hat
            cases r with
            | zero =>
              obtain rfl : tb = false := by
                cases tb with
                | false => rfl
                | true =>
                  obtain ⟨i, d', r', h1, h2⟩ := HTB.out.1 rfl
                  obtain rfl : i = ki := by have := HKI.out; omega
                  rw [hd] at h1
                  cases h1
              clear hd
              go_wp2
              go_meet
              exact ⟨rfl, rfl⟩
            | succ r =>
              obtain rfl : tb = true := HTB.out.2 ⟨ki, d, r, hd, HKI.out⟩
              obtain ⟨rq, HRQ⟩ : ∃ rq : Nat, Hid (rq = r + 1) := ⟨_, Lib.hid rfl⟩
              rw [← HRQ.out] at e5
              have m1 : 0 < rq := by have := HRQ.out; omega
              clear hd
              go_wp2
              go_meet
              exact ⟨rfl, rfl⟩
          · obtain rfl : tb = false := by
              cases tb with
              | false => rfl
              | true =>
                obtain ⟨i, d', r', h1, h2⟩ := HTB.out.1 rfl
                obtain rfl : i = ki := by have := HKI.out; omega
                exact absurd (List.getElem?_eq_some_iff.1 h1).1 hB
            go_wp2
            go_meet
            exact ⟨rfl, rfl⟩
        · obtain rfl : tb = false := by
            cases tb with
            | false => rfl
            | true =>
              obtain ⟨i, d', r', h1, h2⟩ := HTB.out.1 rfl
              omega
          go_wp2
          go_meet
          exact ⟨rfl, rfl⟩
      case rest =>
        obtain ⟨rfl, rfl⟩ := hcut
        have hW := HWAY.out
        clear HWAY
        obtain ⟨ok, oi, od⟩ := o
        simp only at HTB HKZ HKW HWB HWF
        cases hW with
        | kindLo hk =>
          have p0 := HS2.out.cell 3 rfl (k := 0) rfl
          have p1 := HS2.out.cell 3 rfl (k := 1) rfl
          have p2 := HS2.out.cell 3 rfl (k := 2) rfl
          have e0 := HS2.out.cell 4 rfl (k := 0) rfl
          have e1 := HS2.out.cell 4 rfl (k := 1) rfl
          have e2 := HS2.out.cell 4 rfl (k := 2) rfl
          have u0 := HS2.out.froz 4 rfl (k := 0)
          have u1 := HS2.out.froz 4 rfl (k := 1)
          have u2 := HS2.out.froz 4 rfl (k := 2)
          simp only [zA, nos] at p0 p1 p2 e0 e1 e2
          have hk2 : ok < 1 := hk
          clear hk
          have H8 := Lib.hid (HS2.out.set 4 rfl (k := 0) (.int .i64 5))
          go_upto_region 39 with (fail)
          clear p0 p1 p2 e0 e1 e2 u0 u1 u2 HS2
          generalize wc.setCell ⟨gy, 0, none⟩ (.int .i64 5) = w2 at H8 ⊢
          have f0 := H8.out.cell 4 rfl (k := 0) rfl
          have f1 := H8.out.cell 4 rfl (k := 1) rfl
          have f2 := H8.out.cell 4 rfl (k := 2) rfl
          simp only [zA, nos] at f0 f1 f2
          have hnew := Lib.hid (Rd.of_own (own_new w2 49 #[.int .i64 5, .int .i64 0, .string { data := #[] }] 3 1 rfl (by simp [maxLen]) (Nat.le_refl _)))
          go_wp2_with (at_builtin; refine wpList_append_sep (H8.out.alloc _) 2 rfl (.tmp 156) (.tmp 158) 44 rfl 49 ti (.agg #[.int .i64 0, .int .i64 0, .string { data := #[] }]) 3 32 Try.underlying44 hti t0 t1 t2 rfl (by omega) _ k _ rfl rfl _ _ 1 1 _ rfl hnew.out (by simp [Value.oneCell']) (by simp only [maxLen]; omega) (by omega) ?_; intro A7 c7 w7 hc7 hs7 H7'; have H7 := Lib.hid H7'; clear H7')
          go_roundg (n - (k + 1))
          case measure => omega
          case rel => exact ⟨k + 1, A4, A5, A7, c4, c5, c7, l, es ++ [⟨5, 0, nos⟩], by omega, rfl, by go_num, rfl, rfl, rfl, HEL2, HOK2, HSZ2, HBD2, Lib.hid ⟨es1, HP2.out, HAS.out⟩, by rw [List.flatMap_append]; exact H7.out.pick [0, 1, 2] (by decide) (by simp)⟩
        | kindHi hk =>
          have p0 := HS2.out.cell 3 rfl (k := 0) rfl
          have p1 := HS2.out.cell 3 rfl (k := 1) rfl
          have p2 := HS2.out.cell 3 rfl (k := 2) rfl
          have e0 := HS2.out.cell 4 rfl (k := 0) rfl
          have e1 := HS2.out.cell 4 rfl (k := 1) rfl
          have e2 := HS2.out.cell 4 rfl (k := 2) rfl
          have u0 := HS2.out.froz 4 rfl (k := 0)
          have u1 := HS2.out.froz 4 rfl (k := 1)
          have u2 := HS2.out.froz 4 rfl (k := 2)
          simp only [zA, nos] at p0 p1 p2 e0 e1 e2
          have hk2 : 3 < ok := hk
          have hk3 : ¬ ok < 1 := by omega
          clear hk
          have H8 := Lib.hid (HS2.out.set 4 rfl (k := 0) (.int .i64 5))
          go_upto_region 39 with (fail)
          clear p0 p1 p2 e0 e1 e2 u0 u1 u2 HS2
          generalize wc.setCell ⟨gy, 0, none⟩ (.int .i64 5) = w2 at H8 ⊢
          have f0 := H8.out.cell 4 rfl (k := 0) rfl
          have f1 := H8.out.cell 4 rfl (k := 1) rfl
          have f2 := H8.out.cell 4 rfl (k := 2) rfl
          simp only [zA, nos] at f0 f1 f2
          have hnew := Lib.hid (Rd.of_own (own_new w2 49 #[.int .i64 5, .int .i64 0, .string { data := #[] }] 3 1 rfl (by simp [maxLen]) (Nat.le_refl _)))
          go_wp2_with (at_builtin; refine wpList_append_sep (H8.out.alloc _) 2 rfl (.tmp 156) (.tmp 158) 44 rfl 49 ti (.agg #[.int .i64 0, .int .i64 0, .string { data := #[] }]) 3 32 Try.underlying44 hti t0 t1 t2 rfl (by omega) _ k _ rfl rfl _ _ 1 1 _ rfl hnew.out (by simp [Value.oneCell']) (by simp only [maxLen]; omega) (by omega) ?_; intro A7 c7 w7 hc7 hs7 H7'; have H7 := Lib.hid H7'; clear H7')
          go_roundg (n - (k + 1))
          case measure => omega
          case rel => exact ⟨k + 1, A4, A5, A7, c4, c5, c7, l, es ++ [⟨5, 0, nos⟩], by omega, rfl, by go_num, rfl, rfl, rfl, HEL2, HOK2, HSZ2, HBD2, Lib.hid ⟨es1, HP2.out, HAS.out⟩, by rw [List.flatMap_append]; exact H7.out.pick [0, 1, 2] (by decide) (by simp)⟩
        | long hk hsz =>
          obtain rfl : ok = 1 := hk
          have p0 := HS2.out.cell 3 rfl (k := 0) rfl
          have p1 := HS2.out.cell 3 rfl (k := 1) rfl
          have p2 := HS2.out.cell 3 rfl (k := 2) rfl
          have e0 := HS2.out.cell 4 rfl (k := 0) rfl
          have e1 := HS2.out.cell 4 rfl (k := 1) rfl
          have e2 := HS2.out.cell 4 rfl (k := 2) rfl
          have u0 := HS2.out.froz 4 rfl (k := 0)
          have u1 := HS2.out.froz 4 rfl (k := 1)
          have u2 := HS2.out.froz 4 rfl (k := 2)
          simp only [zA, nos] at p0 p1 p2 e0 e1 e2
          have hsz2 : 4096 < od.size := hsz
          clear hsz
          have H8 := Lib.hid (HS2.out.set 4 rfl (k := 0) (.int .i64 2))
          go_upto_region 39 with (fail)
          clear p0 p1 p2 e0 e1 e2 u0 u1 u2 HS2
          generalize wc.setCell ⟨gy, 0, none⟩ (.int .i64 2) = w2 at H8 ⊢
          have f0 := H8.out.cell 4 rfl (k := 0) rfl
          have f1 := H8.out.cell 4 rfl (k := 1) rfl
          have f2 := H8.out.cell 4 rfl (k := 2) rfl
          simp only [zA, nos] at f0 f1 f2
          have hnew := Lib.hid (Rd.of_own (own_new w2 49 #[.int .i64 2, .int .i64 0, .string { data := #[] }] 3 1 rfl (by simp [maxLen]) (Nat.le_refl _)))
          go_wp2_with (at_builtin; refine wpList_append_sep (H8.out.alloc _) 2 rfl (.tmp 156) (.tmp 158) 44 rfl 49 ti (.agg #[.int .i64 0, .int .i64 0, .string { data := #[] }]) 3 32 Try.underlying44 hti t0 t1 t2 rfl (by omega) _ k _ rfl rfl _ _ 1 1 _ rfl hnew.out (by simp [Value.oneCell']) (by simp only [maxLen]; omega) (by omega) ?_; intro A7 c7 w7 hc7 hs7 H7'; have H7 := Lib.hid H7'; clear H7')
          go_roundg (n - (k + 1))
          case measure => omega
          case rel => exact ⟨k + 1, A4, A5, A7, c4, c5, c7, l, es ++ [⟨2, 0, nos⟩], by omega, rfl, by go_num, rfl, rfl, rfl, HEL2, HOK2, HSZ2, HBD2, Lib.hid ⟨es1, HP2.out, HAS.out⟩, by rw [List.flatMap_append]; exact H7.out.pick [0, 1, 2] (by decide) (by simp)⟩
        | none hk hno =>
          obtain rfl : tb = false := by
            cases tb with
            | false => rfl
            | true =>
              obtain ⟨i, d', r', h1, h2⟩ := HTB.out.1 rfl
              exact absurd h2 (hno _ _ _ h1)
          clear hno
          rcases hk with hk | hk
          · obtain rfl : ok = 2 := hk
            have p0 := HS2.out.cell 3 rfl (k := 0) rfl
            have p1 := HS2.out.cell 3 rfl (k := 1) rfl
            have p2 := HS2.out.cell 3 rfl (k := 2) rfl
            have e0 := HS2.out.cell 4 rfl (k := 0) rfl
            have e1 := HS2.out.cell 4 rfl (k := 1) rfl
            have e2 := HS2.out.cell 4 rfl (k := 2) rfl
            have u0 := HS2.out.froz 4 rfl (k := 0)
            have u1 := HS2.out.froz 4 rfl (k := 1)
            have u2 := HS2.out.froz 4 rfl (k := 2)
            simp only [zA, nos] at p0 p1 p2 e0 e1 e2
            have H8 := Lib.hid (HS2.out.set 4 rfl (k := 0) (.int .i64 3))
            go_upto_region 39 with (fail)
            clear p0 p1 p2 e0 e1 e2 u0 u1 u2 HS2
            generalize wc.setCell ⟨gy, 0, none⟩ (.int .i64 3) = w2 at H8 ⊢
            have f0 := H8.out.cell 4 rfl (k := 0) rfl
            have f1 := H8.out.cell 4 rfl (k := 1) rfl
            have f2 := H8.out.cell 4 rfl (k := 2) rfl
            simp only [zA, nos] at f0 f1 f2
            have hnew := Lib.hid (Rd.of_own (own_new w2 49 #[.int .i64 3, .int .i64 0, .string { data := #[] }] 3 1 rfl (by simp [maxLen]) (Nat.le_refl _)))
            go_wp2_with (at_builtin; refine wpList_append_sep (H8.out.alloc _) 2 rfl (.tmp 156) (.tmp 158) 44 rfl 49 ti (.agg #[.int .i64 0, .int .i64 0, .string { data := #[] }]) 3 32 Try.underlying44 hti t0 t1 t2 rfl (by omega) _ k _ rfl rfl _ _ 1 1 _ rfl hnew.out (by simp [Value.oneCell']) (by simp only [maxLen]; omega) (by omega) ?_; intro A7 c7 w7 hc7 hs7 H7'; have H7 := Lib.hid H7'; clear H7')
            go_roundg (n - (k + 1))
            case measure => omega
            case rel => exact ⟨k + 1, A4, A5, A7, c4, c5, c7, l, es ++ [⟨3, 0, nos⟩], by omega, rfl, by go_num, rfl, rfl, rfl, HEL2, HOK2, HSZ2, HBD2, Lib.hid ⟨es1, HP2.out, HAS.out⟩, by rw [List.flatMap_append]; exact H7.out.pick [0, 1, 2] (by decide) (by simp)⟩
          · obtain rfl : ok = 3 := hk
            have p0 := HS2.out.cell 3 rfl (k := 0) rfl
            have p1 := HS2.out.cell 3 rfl (k := 1) rfl
            have p2 := HS2.out.cell 3 rfl (k := 2) rfl
            have e0 := HS2.out.cell 4 rfl (k := 0) rfl
            have e1 := HS2.out.cell 4 rfl (k := 1) rfl
            have e2 := HS2.out.cell 4 rfl (k := 2) rfl
            have u0 := HS2.out.froz 4 rfl (k := 0)
            have u1 := HS2.out.froz 4 rfl (k := 1)
            have u2 := HS2.out.froz 4 rfl (k := 2)
            simp only [zA, nos] at p0 p1 p2 e0 e1 e2
            have H8 := Lib.hid (HS2.out.set 4 rfl (k := 0) (.int .i64 3))
            go_upto_region 39 with (fail)
            clear p0 p1 p2 e0 e1 e2 u0 u1 u2 HS2
            generalize wc.setCell ⟨gy, 0, none⟩ (.int .i64 3) = w2 at H8 ⊢
            have f0 := H8.out.cell 4 rfl (k := 0) rfl
            have f1 := H8.out.cell 4 rfl (k := 1) rfl
            have f2 := H8.out.cell 4 rfl (k := 2) rfl
            simp only [zA, nos] at f0 f1 f2
            have hnew := Lib.hid (Rd.of_own (own_new w2 49 #[.int .i64 3, .int .i64 0, .string { data := #[] }] 3 1 rfl (by simp [maxLen]) (Nat.le_refl _)))
            go_wp2_with (at_builtin; refine wpList_append_sep (H8.out.alloc _) 2 rfl (.tmp 156) (.tmp 158) 44 rfl 49 ti (.agg #[.int .i64 0, .int .i64 0, .string { data := #[] }]) 3 32 Try.underlying44 hti t0 t1 t2 rfl (by omega) _ k _ rfl rfl _ _ 1 1 _ rfl hnew.out (by simp [Value.oneCell']) (by simp only [maxLen]; omega) (by omega) ?_; intro A7 c7 w7 hc7 hs7 H7'; have H7 := Lib.hid H7'; clear H7')
            go_roundg (n - (k + 1))
            case measure => omega
            case rel => exact ⟨k + 1, A4, A5, A7, c4, c5, c7, l, es ++ [⟨3, 0, nos⟩], by omega, rfl, by go_num, rfl, rfl, rfl, HEL2, HOK2, HSZ2, HBD2, Lib.hid ⟨es1, HP2.out, HAS.out⟩, by rw [List.flatMap_append]; exact H7.out.pick [0, 1, 2] (by decide) (by simp)⟩
        | @drop i r d hk hi hid =>
          obtain rfl : ok = 2 := hk
          obtain rfl : tb = true := HTB.out.2 ⟨i, d, r, hi, hid⟩
          have hil := (List.getElem?_eq_some_iff.1 hi).1
          obtain rfl : kz = (i : Int) := HKW.out i (by omega) hid
          have p0 := HS2.out.cell 3 rfl (k := 0) rfl
          have p1 := HS2.out.cell 3 rfl (k := 1) rfl
          have p2 := HS2.out.cell 3 rfl (k := 2) rfl
          have e0 := HS2.out.cell 4 rfl (k := 0) rfl
          have e1 := HS2.out.cell 4 rfl (k := 1) rfl
          have e2 := HS2.out.cell 4 rfl (k := 2) rfl
          have u0 := HS2.out.froz 4 rfl (k := 0)
          have u1 := HS2.out.froz 4 rfl (k := 1)
          have u2 := HS2.out.froz 4 rfl (k := 2)
          simp only [zA, nos] at p0 p1 p2 e0 e1 e2
          obtain ⟨g5, rfl, _, hat⟩ := HS2.out.rowAt 1 rfl (by omega)
          have x5 := (hat i).1 _ (rcell_at hi)
          have y5 := (hat i).2.1
          have H5 := (hat i).2.2 (.int .i64 (r : Int))
          have hrb := HBD.out.2 _ _ _ hi
          obtain ⟨rq, HRQ⟩ : ∃ rq : Nat, Hid (rq = r + 1) := ⟨_, Lib.hid rfl⟩
          rw [← HRQ.out] at x5
          have m0 : (0 : Int) ≤ (i : Int) := by omega
          have m1 : i < l.length := hil
          have m2 : (rq : Int) - 1 = (r : Int) := by have := HRQ.out; omega
          have m3 : (0 : Int) ≤ (r : Int) := by omega
          have m4 : (r : Int) < 140737488355328 := by omega
          have HL1 : Hid ((l.flatMap rcell).set i (.int .i64 (r : Int)) = (l.set i (d, r)).flatMap rcell ∧ l.flatMap dcell = (l.set i (d, r)).flatMap dcell) := Lib.hid ⟨rcell_set hil _ _, dcell_keep hi _⟩
          have HLN : Hid ((l.set i (d, r)).length = l.length) := Lib.hid (List.length_set ..)
          have z0 := H5.cell 4 rfl (k := 1) rfl
          have z5 : (wc.setCell ⟨g5, i, none⟩ (.int .i64 (r : Int))).cell? ⟨g5, i, none⟩ = some (.int .i64 (r : Int)) := by
            obtain ⟨g', hg', _, hat'⟩ := H5.rowAt 1 rfl (by omega)
            cases hg'
            exact (hat' i).1 _ (by rw [List.getElem?_set, if_pos rfl, if_pos (by rw [flat_len rcell_len]; omega)])
          have v0 := H5.froz 4 rfl (k := 1)
          simp only [zA] at z0
          have H8 := Lib.hid (H5.set 4 rfl (k := 1) (.int .i64 (r : Int)))
          clear H5 hat hi hid hil hrb
          go_upto_region 39 with (fail)
          clear p0 p1 p2 e0 e1 e2 u0 u1 u2 HS2 x5 y5 z0 z5 v0
          generalize (wc.setCell ⟨g5, i, none⟩ (.int .i64 (r : Int))).setCell ⟨gy, 1, none⟩ (.int .i64 (r : Int)) = w2 at H8 ⊢
          have f0 := H8.out.cell 4 rfl (k := 0) rfl
          have f1 := H8.out.cell 4 rfl (k := 1) rfl
          have f2 := H8.out.cell 4 rfl (k := 2) rfl
          simp only [zA, nos] at f0 f1 f2
          have hnew := Lib.hid (Rd.of_own (own_new w2 49 #[.int .i64 0, .int .i64 (r : Int), .string { data := #[] }] 3 1 rfl (by simp [maxLen]) (Nat.le_refl _)))
          go_wp2_with (at_builtin; refine wpList_append_sep (H8.out.alloc _) 2 rfl (.tmp 156) (.tmp 158) 44 rfl 49 ti (.agg #[.int .i64 0, .int .i64 0, .string { data := #[] }]) 3 32 Try.underlying44 hti t0 t1 t2 rfl (by omega) _ k _ rfl rfl _ _ 1 1 _ rfl hnew.out (by simp [Value.oneCell']) (by simp only [maxLen]; omega) (by omega) ?_; intro A7 c7 w7 hc7 hs7 H7'; have H7 := Lib.hid H7'; clear H7')
          go_roundg (n - (k + 1))
          case measure => omega
          case rel =>
            refine ⟨k + 1, A4, some ⟨g5, 0, none⟩, A7, c4, c5, c7, l.set i (d, r), es ++ [⟨0, (r : Int), nos⟩], by omega, rfl, by go_num, by rw [HLN.out], by rw [HLN.out], rfl, HEL2, HOK2, HSZ2, HBD2, Lib.hid ⟨es1, HP2.out, HAS.out⟩, ?_⟩
            rw [List.flatMap_append, ← HL1.out.1, ← HL1.out.2, HLN.out]
            exact H7.out.pick [0, 1, 2] (by decide) (by simp)
        | @get i r d hk hi hid =>
          obtain rfl : ok = 3 := hk
          obtain rfl : tb = true := HTB.out.2 ⟨i, d, r, hi, hid⟩
          have hil := (List.getElem?_eq_some_iff.1 hi).1
          obtain rfl : kz = (i : Int) := HKW.out i (by omega) hid
          have p0 := HS2.out.cell 3 rfl (k := 0) rfl
          have p1 := HS2.out.cell 3 rfl (k := 1) rfl
          have p2 := HS2.out.cell 3 rfl (k := 2) rfl
          have e0 := HS2.out.cell 4 rfl (k := 0) rfl
          have e1 := HS2.out.cell 4 rfl (k := 1) rfl
          have e2 := HS2.out.cell 4 rfl (k := 2) rfl
          have u0 := HS2.out.froz 4 rfl (k := 0)
          have u1 := HS2.out.froz 4 rfl (k := 1)
          have u2 := HS2.out.froz 4 rfl (k := 2)
          simp only [zA, nos] at p0 p1 p2 e0 e1 e2
          obtain ⟨g5, rfl, _, hat⟩ := HS2.out.rowAt 1 rfl (by omega)
          have x5 := (hat i).1 _ (rcell_at hi)
          clear hat
          obtain ⟨g4, rfl, _, hat⟩ := HS2.out.rowAt 0 rfl (by omega)
          have x4 := (hat i).1 _ (dcell_at hi)
          clear hat
          have hrb := HBD.out.2 _ _ _ hi
          obtain ⟨rq, HRQ⟩ : ∃ rq : Nat, Hid (rq = r + 1) := ⟨_, Lib.hid rfl⟩
          rw [← HRQ.out] at x5
          have hrq : (rq : Int) = (r : Int) + 1 := by have := HRQ.out; omega
          rw [← hrq] at HAS HEL2
          have m0 : (0 : Int) ≤ (i : Int) := by omega
          have m1 : i < l.length := hil
          have HRC : Hid ((l.flatMap rcell)[i]? = some (.int .i64 (rq : Int))) := Lib.hid (by rw [HRQ.out]; exact rcell_at hi)
          have HDC : Hid ((l.flatMap dcell)[i]? = some (.string d)) := Lib.hid (dcell_at hi)
          have hn0 : 0 < l.length := by omega
          clear hi hid hil hrb hrq x4 x5
          go_upto_region 10 with (fail)
          clear p0 p1 p2 e0 e1 e2 u0 u1 u2
          refine wp_region_inv0 (fun ac0 L ac w' => ∃ x44 x45 x46 x47 x48 x49 x50 x51 x52 x53, ac = turn ac0 [(44, x44), (45, x45), (46, x46), (47, x47), (48, x48), (49, x49), (50, x50), (51, x51), (52, x52), (53, x53)] ∧ (L 0 = true → x44 = .slice (some ⟨g5, 0, none⟩) l.length c5) ∧ (L 1 = true → x45 = .int .i64 (i : Int)) ∧ (L 2 = true → x46 = .pointer (some ⟨g5, i, none⟩)) ∧ (L 3 = true → x47 = .int .i64 (rq : Int)) ∧ (L 4 = true → x48 = .slice (some ⟨g4, 0, none⟩) l.length c4) ∧ (L 5 = true → x49 = .int .i64 (i : Int)) ∧ (L 6 = true → x50 = .pointer (some ⟨g4, i, none⟩)) ∧ (L 7 = true → x51 = .string d) ∧ (L 8 = true → x52 = .pointer (some ⟨gy, 1, none⟩)) ∧ (L 10 = true → x53 = .pointer (some ⟨gy, 2, none⟩)) ∧ (L 2 = true → L 0 = true ∧ L 1 = true) ∧ (L 3 = true → L 2 = true) ∧ (L 6 = true → L 4 = true ∧ L 5 = true) ∧ (L 7 = true → L 6 = true) ∧ (L 8 = true → L 0 = true ∧ L 1 = true ∧ L 2 = true ∧ L 3 = true) ∧ (L 9 = true → L 0 = true ∧ L 1 = true ∧ L 2 = true ∧ L 3 = true ∧ L 8 = true) ∧ (L 10 = true → L 0 = true ∧ L 1 = true ∧ L 2 = true ∧ L 3 = true ∧ L 4 = true ∧ L 5 = true ∧ L 6 = true ∧ L 7 = true ∧ L 8 = true ∧ L 9 = true) ∧ (L 11 = true → L 0 = true ∧ L 1 = true ∧ L 2 = true ∧ L 3 = true ∧ L 4 = true ∧ L 5 = true ∧ L 6 = true ∧ L 7 = true ∧ L 8 = true ∧ L 9 = true ∧ L 10 = true) ∧ (if L 11 = true then (Sep w w' [.row 9 1 (.slice (some ⟨g4, 0, none⟩) l.length c4) l.length (l.flatMap dcell), .row 3 1 (.slice (some ⟨g5, 0, none⟩) l.length c5) l.length (l.flatMap rcell), .row 49 3 (.slice A6 k c6) k (es.flatMap A.cells), opC gx ⟨3, oi, od⟩, anC gy ⟨0, (rq : Int), d⟩]) else (if L 9 = true then (Sep w w' [.row 9 1 (.slice (some ⟨g4, 0, none⟩) l.length c4) l.length (l.flatMap dcell), .row 3 1 (.slice (some ⟨g5, 0, none⟩) l.length c5) l.length (l.flatMap rcell), .row 49 3 (.slice A6 k c6) k (es.flatMap A.cells), opC gx ⟨3, oi, od⟩, anC gy ⟨0, (rq : Int), nos⟩]) else Sep w w' [.row 9 1 (.slice (some ⟨g4, 0, none⟩) l.length c4) l.length (l.flatMap dcell), .row 3 1 (.slice (some ⟨g5, 0, none⟩) l.length c5) l.length (l.flatMap rcell), .row 49 3 (.slice A6 k c6) k (es.flatMap A.cells), opC gx ⟨3, oi, od⟩, anC gy zA]))) rfl (by kernel_rfl) ?_ ?_ ?_
          · simp only [turn, List.foldl_cons, List.foldl_nil, List.setIfInBounds_toArray, List.set_cons_succ, List.set_cons_zero]
            exact ⟨_, _, _, _, _, _, _, _, _, _, rfl, (fun h => absurd h (by decide)), (fun h => absurd h (by decide)), (fun h => absurd h (by decide)), (fun h => absurd h (by decide)), (fun h => absurd h (by decide)), (fun h => absurd h (by decide)), (fun h => absurd h (by decide)), (fun h => absurd h (by decide)), (fun h => absurd h (by decide)), (fun h => absurd h (by decide)), (fun h => absurd h (by decide)), (fun h => absurd h (by decide)), (fun h => absurd h (by decide)), (fun h => absurd h (by decide)), (fun h => absurd h (by decide)), (fun h => absurd h (by decide)), (fun h => absurd h (by decide)), (fun h => absurd h (by decide)), by simpa using HS2.out.drew⟩
          · rintro L ac w' i o ⟨x44, x45, x46, x47, x48, x49, x50, x51, x52, x53, ha, p0, p1, p2, p3, p4, p5, p6, p7, p8, p10, q2, q3, q6, q7, q8, q9, q10, q11, hS⟩ ho hi he
            simp only [turn, List.foldl_cons, List.foldl_nil, List.setIfInBounds_toArray, List.set_cons_succ, List.set_cons_zero] at ha ⊢
            subst ha
            rcases i with _|_|_|_|_|_|_|_|_|_|_|_|i
            all_goals cases ho
            all_goals simp [Region.binds] at he
            · have h2 : L 2 = false := by cases hh : L 2 with | false => rfl | true => (have hq := q2 hh; simp [hi] at hq)
              have h8 : L 8 = false := by cases hh : L 8 with | false => rfl | true => (have hq := q8 hh; simp [hi] at hq)
              have h9 : L 9 = false := by cases hh : L 9 with | false => rfl | true => (have hq := q9 hh; simp [hi] at hq)
              have h10 : L 10 = false := by cases hh : L 10 with | false => rfl | true => (have hq := q10 hh; simp [hi] at hq)
              have h11 : L 11 = false := by cases hh : L 11 with | false => rfl | true => (have hq := q11 hh; simp [hi] at hq)
              have h3 : L 3 = false := by cases hh : L 3 with | false => rfl | true => (have hq := q3 hh; simp [h2] at hq)
              refine wpOp_step rfl (fun K hK => ?_)
              go_simp
              exact hK _ _ ⟨_, _, _, _, _, _, _, _, _, _, rfl, (fun _ => rfl), (by first | exact p1 | exact fun _ => rfl), (by simp [h2]), (by simp [h3]), (by first | exact p4 | exact fun _ => rfl), (by first | exact p5 | exact fun _ => rfl), (by first | exact p6 | exact fun _ => rfl), (by first | exact p7 | exact fun _ => rfl), (by simp [h8]), (by simp [h10]), (by simp [h2]), (by simp [h3]), (by simpa using q6), (by simpa using q7), (by simp [h8]), (by simp [h9]), (by simp [h10]), (by simp [h11]), (by simpa [h2, h8, h9, h10, h11, h3] using hS)⟩
            · have h2 : L 2 = false := by cases hh : L 2 with | false => rfl | true => (have hq := q2 hh; simp [hi] at hq)
              have h8 : L 8 = false := by cases hh : L 8 with | false => rfl | true => (have hq := q8 hh; simp [hi] at hq)
              have h9 : L 9 = false := by cases hh : L 9 with | false => rfl | true => (have hq := q9 hh; simp [hi] at hq)
              have h10 : L 10 = false := by cases hh : L 10 with | false => rfl | true => (have hq := q10 hh; simp [hi] at hq)
              have h11 : L 11 = false := by cases hh : L 11 with | false => rfl | true => (have hq := q11 hh; simp [hi] at hq)
              have h3 : L 3 = false := by cases hh : L 3 with | false => rfl | true => (have hq := q3 hh; simp [h2] at hq)
              refine wpOp_step rfl (fun K hK => ?_)
              go_simp
              exact hK _ _ ⟨_, _, _, _, _, _, _, _, _, _, rfl, (by first | exact p0 | exact fun _ => rfl), (fun _ => rfl), (by simp [h2]), (by simp [h3]), (by first | exact p4 | exact fun _ => rfl), (by first | exact p5 | exact fun _ => rfl), (by first | exact p6 | exact fun _ => rfl), (by first | exact p7 | exact fun _ => rfl), (by simp [h8]), (by simp [h10]), (by simp [h2]), (by simp [h3]), (by simpa using q6), (by simpa using q7), (by simp [h8]), (by simp [h9]), (by simp [h10]), (by simp [h11]), (by simpa [h2, h8, h9, h10, h11, h3] using hS)⟩
            · have h3 : L 3 = false := by cases hh : L 3 with | false => rfl | true => (have hq := q3 hh; simp [hi] at hq)
              have h8 : L 8 = false := by cases hh : L 8 with | false => rfl | true => (have hq := q8 hh; simp [hi] at hq)
              have h9 : L 9 = false := by cases hh : L 9 with | false => rfl | true => (have hq := q9 hh; simp [hi] at hq)
              have h10 : L 10 = false := by cases hh : L 10 with | false => rfl | true => (have hq := q10 hh; simp [hi] at hq)
              have h11 : L 11 = false := by cases hh : L 11 with | false => rfl | true => (have hq := q11 hh; simp [hi] at hq)
              obtain rfl := p0 (by simp [he])
              obtain rfl := p1 (by simp [he])
              refine wpOp_step rfl (fun K hK => ?_)
              go_simp
              exact hK _ _ ⟨_, _, _, _, _, _, _, _, _, _, rfl, (by first | exact p0 | exact fun _ => rfl), (by first | exact p1 | exact fun _ => rfl), (fun _ => rfl), (by simp [h3]), (by first | exact p4 | exact fun _ => rfl), (by first | exact p5 | exact fun _ => rfl), (by first | exact p6 | exact fun _ => rfl), (by first | exact p7 | exact fun _ => rfl), (by simp [h8]), (by simp [h10]), (by simp [he]), (by simp [h3]), (by simpa using q6), (by simpa using q7), (by simp [h8]), (by simp [h9]), (by simp [h10]), (by simp [h11]), (by simpa [h3, h8, h9, h10, h11] using hS)⟩
            · have h8 : L 8 = false := by cases hh : L 8 with | false => rfl | true => (have hq := q8 hh; simp [hi] at hq)
              have h9 : L 9 = false := by cases hh : L 9 with | false => rfl | true => (have hq := q9 hh; simp [hi] at hq)
              have h10 : L 10 = false := by cases hh : L 10 with | false => rfl | true => (have hq := q10 hh; simp [hi] at hq)
              have h11 : L 11 = false := by cases hh : L 11 with | false => rfl | true => (have hq := q11 hh; simp [hi] at hq)
              obtain rfl := p2 (by simp [he])
              have x5 : w'.cell? ⟨g5, i, none⟩ = some (.int .i64 (rq : Int)) := by
                rw [if_neg (by simp [h11]), if_neg (by simp [h9])] at hS
                obtain ⟨g', hg', _, hat⟩ := hS.rowAt 1 rfl hn0
                cases hg'
                exact (hat i).1 _ HRC.out
              refine wpOp_step rfl (fun K hK => ?_)
              go_simp
              exact hK _ _ ⟨_, _, _, _, _, _, _, _, _, _, rfl, (by first | exact p0 | exact fun _ => rfl), (by first | exact p1 | exact fun _ => rfl), (by first | exact p2 | exact fun _ => rfl), (fun _ => rfl), (by first | exact p4 | exact fun _ => rfl), (by first | exact p5 | exact fun _ => rfl), (by first | exact p6 | exact fun _ => rfl), (by first | exact p7 | exact fun _ => rfl), (by simp [h8]), (by simp [h10]), (by simpa using q2), (by simp [he]), (by simpa using q6), (by simpa using q7), (by simp [h8]), (by simp [h9]), (by simp [h10]), (by simp [h11]), (by simpa [h8, h9, h10, h11] using hS)⟩
            · have h6 : L 6 = false := by cases hh : L 6 with | false => rfl | true => (have hq := q6 hh; simp [hi] at hq)
              have h10 : L 10 = false := by cases hh : L 10 with | false => rfl | true => (have hq := q10 hh; simp [hi] at hq)
              have h11 : L 11 = false := by cases hh : L 11 with | false => rfl | true => (have hq := q11 hh; simp [hi] at hq)
              have h7 : L 7 = false := by cases hh : L 7 with | false => rfl | true => (have hq := q7 hh; simp [h6] at hq)
              refine wpOp_step rfl (fun K hK => ?_)
              go_simp
              exact hK _ _ ⟨_, _, _, _, _, _, _, _, _, _, rfl, (by first | exact p0 | exact fun _ => rfl), (by first | exact p1 | exact fun _ => rfl), (by first | exact p2 | exact fun _ => rfl), (by first | exact p3 | exact fun _ => rfl), (fun _ => rfl), (by first | exact p5 | exact fun _ => rfl), (by simp [h6]), (by simp [h7]), (by first | exact p8 | exact fun _ => rfl), (by simp [h10]), (by simpa using q2), (by simpa using q3), (by simp [h6]), (by simp [h7]), (by simpa using q8), (by simpa using q9), (by simp [h10]), (by simp [h11]), (by simpa [h6, h10, h11, h7] using hS)⟩
            · have h6 : L 6 = false := by cases hh : L 6 with | false => rfl | true => (have hq := q6 hh; simp [hi] at hq)
              have h10 : L 10 = false := by cases hh : L 10 with | false => rfl | true => (have hq := q10 hh; simp [hi] at hq)
              have h11 : L 11 = false := by cases hh : L 11 with | false => rfl | true => (have hq := q11 hh; simp [hi] at hq)
              have h7 : L 7 = false := by cases hh : L 7 with | false => rfl | true => (have hq := q7 hh; simp [h6] at hq)
              refine wpOp_step rfl (fun K hK => ?_)
              go_simp
              exact hK _ _ ⟨_, _, _, _, _, _, _, _, _, _, rfl, (by first | exact p0 | exact fun _ => rfl), (by first | exact p1 | exact fun _ => rfl), (by first | exact p2 | exact fun _ => rfl), (by first | exact p3 | exact fun _ => rfl), (by first | exact p4 | exact fun _ => rfl), (fun _ => rfl), (by simp [h6]), (by simp [h7]), (by first | exact p8 | exact fun _ => rfl), (by simp [h10]), (by simpa using q2), (by simpa using q3), (by simp [h6]), (by simp [h7]), (by simpa using q8), (by simpa using q9), (by simp [h10]), (by simp [h11]), (by simpa [h6, h10, h11, h7] using hS)⟩
            · have h7 : L 7 = false := by cases hh : L 7 with | false => rfl | true => (have hq := q7 hh; simp [hi] at hq)
              have h10 : L 10 = false := by cases hh : L 10 with | false => rfl | true => (have hq := q10 hh; simp [hi] at hq)
              have h11 : L 11 = false := by cases hh : L 11 with | false => rfl | true => (have hq := q11 hh; simp [hi] at hq)
              obtain rfl := p4 (by simp [he])
              obtain rfl := p5 (by simp [he])
              refine wpOp_step rfl (fun K hK => ?_)
              go_simp
              exact hK _ _ ⟨_, _, _, _, _, _, _, _, _, _, rfl, (by first | exact p0 | exact fun _ => rfl), (by first | exact p1 | exact fun _ => rfl), (by first | exact p2 | exact fun _ => rfl), (by first | exact p3 | exact fun _ => rfl), (by first | exact p4 | exact fun _ => rfl), (by first | exact p5 | exact fun _ => rfl), (fun _ => rfl), (by simp [h7]), (by first | exact p8 | exact fun _ => rfl), (by simp [h10]), (by simpa using q2), (by simpa using q3), (by simp [he]), (by simp [h7]), (by simpa using q8), (by simpa using q9), (by simp [h10]), (by simp [h11]), (by simpa [h7, h10, h11] using hS)⟩
            · have h10 : L 10 = false := by cases hh : L 10 with | false => rfl | true => (have hq := q10 hh; simp [hi] at hq)
              have h11 : L 11 = false := by cases hh : L 11 with | false => rfl | true => (have hq := q11 hh; simp [hi] at hq)
              obtain rfl := p6 (by simp [he])
              have x4 : w'.cell? ⟨g4, i, none⟩ = some (.string d) := by
                rw [if_neg (by simp [h11])] at hS
                split at hS
                · obtain ⟨g', hg', _, hat⟩ := hS.rowAt 0 rfl hn0
                  cases hg'
                  exact (hat i).1 _ HDC.out
                · obtain ⟨g', hg', _, hat⟩ := hS.rowAt 0 rfl hn0
                  cases hg'
                  exact (hat i).1 _ HDC.out
              refine wpOp_step rfl (fun K hK => ?_)
              go_simp
              exact hK _ _ ⟨_, _, _, _, _, _, _, _, _, _, rfl, (by first | exact p0 | exact fun _ => rfl), (by first | exact p1 | exact fun _ => rfl), (by first | exact p2 | exact fun _ => rfl), (by first | exact p3 | exact fun _ => rfl), (by first | exact p4 | exact fun _ => rfl), (by first | exact p5 | exact fun _ => rfl), (by first | exact p6 | exact fun _ => rfl), (fun _ => rfl), (by first | exact p8 | exact fun _ => rfl), (by simp [h10]), (by simpa using q2), (by simpa using q3), (by simpa using q6), (by simp [he]), (by simpa using q8), (by simpa using q9), (by simp [h10]), (by simp [h11]), (by simpa [h10, h11] using hS)⟩
            · have h9 : L 9 = false := by cases hh : L 9 with | false => rfl | true => (have hq := q9 hh; simp [hi] at hq)
              have h10 : L 10 = false := by cases hh : L 10 with | false => rfl | true => (have hq := q10 hh; simp [hi] at hq)
              have h11 : L 11 = false := by cases hh : L 11 with | false => rfl | true => (have hq := q11 hh; simp [hi] at hq)
              refine wpOp_step rfl (fun K hK => ?_)
              go_simp
              exact hK _ _ ⟨_, _, _, _, _, _, _, _, _, _, rfl, (by first | exact p0 | exact fun _ => rfl), (by first | exact p1 | exact fun _ => rfl), (by first | exact p2 | exact fun _ => rfl), (by first | exact p3 | exact fun _ => rfl), (by first | exact p4 | exact fun _ => rfl), (by first | exact p5 | exact fun _ => rfl), (by first | exact p6 | exact fun _ => rfl), (by first | exact p7 | exact fun _ => rfl), (fun _ => rfl), (by simp [h10]), (by simpa using q2), (by simpa using q3), (by simpa using q6), (by simpa using q7), (by simp [he]), (by simp [h9]), (by simp [h10]), (by simp [h11]), (by simpa [h9, h10, h11] using hS)⟩
            · have h10 : L 10 = false := by cases hh : L 10 with | false => rfl | true => (have hq := q10 hh; simp [hi] at hq)
              have h11 : L 11 = false := by cases hh : L 11 with | false => rfl | true => (have hq := q11 hh; simp [hi] at hq)
              obtain rfl := p8 (by simp [he])
              obtain rfl := p3 (by simp [he])
              rw [if_neg (by simp [h11]), if_neg (by simp [hi])] at hS
              have e1 := hS.cell 4 rfl (k := 1) rfl
              have u1 := hS.froz 4 rfl (k := 1)
              have hN := hS.set 4 rfl (k := 1) (.int .i64 (rq : Int))
              refine wpOp_step rfl (fun K hK => ?_)
              go_simp
              exact hK _ _ ⟨_, _, _, _, _, _, _, _, _, _, rfl, (by first | exact p0 | exact fun _ => rfl), (by first | exact p1 | exact fun _ => rfl), (by first | exact p2 | exact fun _ => rfl), (by first | exact p3 | exact fun _ => rfl), (by first | exact p4 | exact fun _ => rfl), (by first | exact p5 | exact fun _ => rfl), (by first | exact p6 | exact fun _ => rfl), (by first | exact p7 | exact fun _ => rfl), (by first | exact p8 | exact fun _ => rfl), (by simp [h10]), (by simpa using q2), (by simpa using q3), (by simpa using q6), (by simpa using q7), (by simpa using q8), (by simp [he]), (by simp [h10]), (by simp [h11]), (by rw [if_neg (by simp [h11]), if_pos (by simp)]; exact hN)⟩
            · have h11 : L 11 = false := by cases hh : L 11 with | false => rfl | true => (have hq := q11 hh; simp [hi] at hq)
              refine wpOp_step rfl (fun K hK => ?_)
              go_simp
              exact hK _ _ ⟨_, _, _, _, _, _, _, _, _, _, rfl, (by first | exact p0 | exact fun _ => rfl), (by first | exact p1 | exact fun _ => rfl), (by first | exact p2 | exact fun _ => rfl), (by first | exact p3 | exact fun _ => rfl), (by first | exact p4 | exact fun _ => rfl), (by first | exact p5 | exact fun _ => rfl), (by first | exact p6 | exact fun _ => rfl), (by first | exact p7 | exact fun _ => rfl), (by first | exact p8 | exact fun _ => rfl), (fun _ => rfl), (by simpa using q2), (by simpa using q3), (by simpa using q6), (by simpa using q7), (by simpa using q8), (by simpa using q9), (by simp [he]), (by simp [h11]), (by simpa [h11] using hS)⟩
            · obtain rfl := p10 (by simp [he])
              obtain rfl := p7 (by simp [he])
              have t9 : L 9 = true := by simp [he]
              rw [if_neg (by simp [hi]), if_pos t9] at hS
              have e1 := hS.cell 4 rfl (k := 2) rfl
              have u1 := hS.froz 4 rfl (k := 2)
              have hN := hS.set 4 rfl (k := 2) (.string d)
              refine wpOp_step rfl (fun K hK => ?_)
              go_simp
              exact hK _ _ ⟨_, _, _, _, _, _, _, _, _, _, rfl, (by first | exact p0 | exact fun _ => rfl), (by first | exact p1 | exact fun _ => rfl), (by first | exact p2 | exact fun _ => rfl), (by first | exact p3 | exact fun _ => rfl), (by first | exact p4 | exact fun _ => rfl), (by first | exact p5 | exact fun _ => rfl), (by first | exact p6 | exact fun _ => rfl), (by first | exact p7 | exact fun _ => rfl), (by first | exact p8 | exact fun _ => rfl), (by first | exact p10 | exact fun _ => rfl), (by simpa using q2), (by simpa using q3), (by simpa using q6), (by simpa using q7), (by simpa using q8), (by simpa using q9), (by simpa using q10), (by simp [he]), (by rw [if_pos (by simp)]; exact hN)⟩
          · rintro L ac w' ⟨x44, x45, x46, x47, x48, x49, x50, x51, x52, x53, ha, p0, p1, p2, p3, p4, p5, p6, p7, p8, p10, q2, q3, q6, q7, q8, q9, q10, q11, hS⟩ hall
            have t9 := hall 9 (by decide)
            have t11 := hall 11 (by decide)
            rw [if_pos t11] at hS
            
            obtain rfl := p0 (hall 0 (by decide))
            obtain rfl := p1 (hall 1 (by decide))
            obtain rfl := p2 (hall 2 (by decide))
            obtain rfl := p3 (hall 3 (by decide))
            obtain rfl := p4 (hall 4 (by decide))
            obtain rfl := p5 (hall 5 (by decide))
            obtain rfl := p6 (hall 6 (by decide))
            obtain rfl := p7 (hall 7 (by decide))
            obtain rfl := p8 (hall 8 (by decide))
            obtain rfl := p10 (hall 10 (by decide))
            simp only [turn, List.foldl_cons, List.foldl_nil, List.setIfInBounds_toArray, List.set_cons_succ, List.set_cons_zero] at ha
            subst ha
            clear q2 q3 q6 q7 q8 q9 q10 q11  t9 t11
            have H8 := Lib.hid hS
            clear hS
            generalize w' = w2 at H8 ⊢
            go_upto_region 39 with (fail)
            have f0 := H8.out.cell 4 rfl (k := 0) rfl
            have f1 := H8.out.cell 4 rfl (k := 1) rfl
            have f2 := H8.out.cell 4 rfl (k := 2) rfl
            have hnew := Lib.hid (Rd.of_own (own_new w2 49 #[.int .i64 0, .int .i64 (rq : Int), .string d] 3 1 rfl (by simp [maxLen]) (Nat.le_refl _)))
            go_wp2_with (at_builtin; refine wpList_append_sep (H8.out.alloc _) 2 rfl (.tmp 156) (.tmp 158) 44 rfl 49 ti (.agg #[.int .i64 0, .int .i64 0, .string { data := #[] }]) 3 32 Try.underlying44 hti t0 t1 t2 rfl (by omega) _ k _ rfl rfl _ _ 1 1 _ rfl hnew.out (by simp [Value.oneCell']) (by simp only [maxLen]; omega) (by omega) ?_; intro A7 c7 w7 hc7 hs7 H7'; have H7 := Lib.hid H7'; clear H7')
            go_roundg (n - (k + 1))
            case measure => omega
            case rel => exact ⟨k + 1, some ⟨g4, 0, none⟩, some ⟨g5, 0, none⟩, A7, c4, c5, c7, l, es ++ [⟨0, (rq : Int), d⟩], by omega, rfl, by go_num, rfl, rfl, rfl, HEL2, HOK2, HSZ2, HBD2, Lib.hid ⟨es1, HP2.out, HAS.out⟩, by rw [List.flatMap_append]; exact H7.out.pick [0, 1, 2] (by decide) (by simp)⟩
        | @held i r hk hsz hi =>
          obtain rfl : ok = 1 := hk
          obtain ⟨rq, HRQ⟩ : ∃ rq : Nat, Hid (rq = r + 1) := ⟨_, Lib.hid rfl⟩
          obtain ⟨rn, HRN⟩ : ∃ rn : Nat, Hid (rn = r + 2) := ⟨_, Lib.hid rfl⟩
          have HI : Hid (l[i]? = some (od, rq)) := Lib.hid (by rw [HRQ.out]; exact hi)
          have hrb := HBD.out.2 _ _ _ hi
          have HOK3 : Hid (Ok (l.set i (od, rn))) := Lib.hid (by rw [HRN.out]; exact HOK2.out)
          have HSZ3 : Hid (Sz (l.set i (od, rn))) := Lib.hid (by rw [HRN.out]; exact HSZ2.out)
          have HBD3 : Hid (Bd (l.set i (od, rn)) (k + 1)) := Lib.hid (by rw [HRN.out]; exact HBD2.out)
          have HP3 : Hid (Plays (l.set i (od, rn)) (ops.drop (k + 1)) es1 lf) := Lib.hid (by rw [HRN.out]; exact HP2.out)
          clear hi HOK2 HSZ2 HBD2 HP2
          have HV0 : Hid (Lz l l.length (-1)) := Lib.hid (.inl ⟨rfl, fun i d hi h => absurd (List.getElem?_eq_some_iff.1 h).1 (by omega)⟩)
          have hsz2 : ¬ 4096 < od.size := Nat.not_lt.2 hsz
          have hln : l.length < 140737488355328 := by omega
          clear hsz
          have p0 := HS2.out.cell 3 rfl (k := 0) rfl
          have p2 := HS2.out.cell 3 rfl (k := 2) rfl
          simp only at p0 p2
          go_wp2
          go_loopg [12, 13] l.length (fun g v12 v13 wl => ∃ v z : Int, v12 = .int .i64 v ∧ v13 = .int .i64 z ∧ Hid (z = (g : Int) - 1) ∧ g ≤ l.length ∧ Hid (Lz l g v) ∧ Sep w wl [.row 9 1 (.slice A4 l.length c4) l.length (l.flatMap dcell), .row 3 1 (.slice A5 l.length c5) l.length (l.flatMap rcell), .row 49 3 (.slice A6 k c6) k (es.flatMap A.cells), opC gx ⟨1, oi, od⟩, anC gy zA])
          case atStart => exact ⟨-1, _, rfl, rfl, Lib.hid rfl, Nat.le_refl _, HV0, HS2.out⟩
          case round =>
            clear HV0 HS2 p0 p2
            obtain ⟨v0, z, rfl, rfl, HZ, hg, HLZ, hs2⟩ := hrel
            have HS2 := Lib.hid hs2
            clear hs2
            cases gk with
            | succ j =>
              obtain rfl : z = (j : Int) := by have := HZ.out; omega
              have hg' : j + 1 ≤ l.length := hg
              obtain ⟨⟨d2, r2⟩, hd⟩ : ∃ x, l[j]? = some x := ⟨_, List.getElem?_eq_getElem (by omega)⟩
              obtain ⟨g5, rfl, _, hat⟩ := HS2.out.rowAt 1 rfl (by omega)
              have x5 := (hat j).1 _ (rcell_at hd)
              clear hat
              have m0 : (0 : Int) ≤ (j : Int) := by omega
              have m1 : j < l.length := by omega
              cases r2 with
              | zero =>
                have HLZ2 : Hid (Lz l j (j : Int)) := Lib.hid (.inr ⟨j, d2, rfl, Nat.le_refl _, hd, fun i' d' h1 h2 => by omega⟩)
                clear hd HLZ
                go_wp2
                go_roundg j
                case measure => omega
                case rel => exact ⟨_, _, rfl, rfl, Lib.hid rfl, by omega, HLZ2, HS2.out⟩
              | succ r2 =>
                obtain ⟨rq, HRQ⟩ : ∃ rq : Nat, Hid (rq = r2 + 1) := ⟨_, Lib.hid rfl⟩
                have HLZ2 : Hid (Lz l j v0) := Lib.hid (by
                  have here : ∀ (i : Nat) (d : ByteArray), i = j → l[i]? ≠ some (d, 0) := fun i d e h => by
                    subst e
                    rw [hd] at h
                    cases h
                  rcases HLZ.out with ⟨rfl, h⟩ | ⟨i, d, rfl, h1, h2, h3⟩
                  · exact .inl ⟨rfl, fun i d hi => by
                      by_cases hij : i = j
                      · exact here i d hij
                      · exact h i d (by omega)⟩
                  · exact .inr ⟨i, d, rfl, by omega, h2, fun i' d' h4 h5 => by
                      by_cases hij : i' = j
                      · exact here i' d' hij
                      · exact h3 i' d' (by omega) h5⟩)
                rw [← HRQ.out] at x5
                have m2 : ((rq : Int) == 0) = false := by rw [beq_eq_false_iff_ne]; have := HRQ.out; omega
                clear hd HLZ
                go_wp2
                go_roundg j
                case measure => omega
                case rel => exact ⟨_, _, rfl, rfl, Lib.hid rfl, by omega, HLZ2, HS2.out⟩
            | zero =>
              obtain rfl : z = -1 := by have := HZ.out; omega
              go_wp2
              go_loopg [12, 94] l.length (fun g v12 v94 wl => ∃ (k3 : Nat) (v : Int), k3 ≤ l.length ∧ g = l.length - k3 ∧ v94 = .int .i64 (k3 : Int) ∧ v12 = .int .i64 v ∧ Hid (Fz l od k3 v0 v) ∧ Sep w wl [.row 9 1 (.slice A4 l.length c4) l.length (l.flatMap dcell), .row 3 1 (.slice A5 l.length c5) l.length (l.flatMap rcell), .row 49 3 (.slice A6 k c6) k (es.flatMap A.cells), opC gx ⟨1, oi, od⟩, anC gy zA])
              case atStart => exact ⟨0, _, Nat.zero_le _, rfl, rfl, rfl, Lib.hid (.inl ⟨rfl, fun i r h => absurd h (by omega)⟩), HS2.out⟩
              case round =>
                clear HS2
                obtain ⟨k3, v, hk3, rfl, rfl, rfl, HFZ, hs2⟩ := hrel
                have HS2 := Lib.hid hs2
                clear hs2
                by_cases h3 : k3 < l.length
                · obtain ⟨⟨d2, r2⟩, hd⟩ : ∃ x, l[k3]? = some x := ⟨_, List.getElem?_eq_getElem h3⟩
                  obtain ⟨g5, rfl, _, hat⟩ := HS2.out.rowAt 1 rfl (by omega)
                  have x5 := (hat k3).1 _ (rcell_at hd)
                  clear hat
                  obtain ⟨g4, rfl, _, hat⟩ := HS2.out.rowAt 0 rfl (by omega)
                  have x4 := (hat k3).1 _ (dcell_at hd)
                  clear hat
                  have p2 := HS2.out.cell 3 rfl (k := 2) rfl
                  simp only at p2
                  have m0 : (0 : Int) ≤ (k3 : Int) := by omega
                  have m1 : (k3 : Int) < (l.length : Int) := by omega
                  obtain ⟨rq, HRQ⟩ : ∃ rq : Nat, Hid (rq = r2) := ⟨_, Lib.hid rfl⟩
                  rw [← HRQ.out] at x5
                  have y5 := fun zz : LaterOf wr => zz.cell x5
                  have y4 := fun zz : LaterOf wr => zz.cell x4
                  have y2 := fun zz : LaterOf wr => zz.cell p2
                  clear x5 x4 p2
                  have hstay : (∀ r : Nat, l[k3]? ≠ some (od, r + 1)) → Fz l od (k3 + 1) v0 v := fun h => by
                    rcases HFZ.out with ⟨e, h1⟩ | ⟨i, r, h1, h2, h4⟩
                    · exact .inl ⟨e, fun i r hi => by
                        by_cases hik : i = k3
                        · subst hik; exact h r
                        · exact h1 i r (by omega)⟩
                    · exact .inr ⟨i, r, by omega, h2, h4⟩
                  by_cases hz : r2 = 0
                  · have m2 : ¬ 0 < rq := by have := HRQ.out; omega
                    have HFZ2 := Lib.hid (hstay (fun r h => by rw [hd] at h; cases h; omega))
                    clear hd HFZ hstay hz HRQ
                    go_wp2
                    refine wp_region_later (by kernel_rfl) (by kernel_rfl) ?_
                    repeat (go_big_quiet_step (fail))
                    refine wpQuiet_nil ?_; intro xw hw'; obtain ⟨xq, hw''⟩ := hw'; obtain ⟨xw0, xh⟩ := xq; change xw = xw0 at hw''; subst hw''
                    go_wp2
                    go_roundg (l.length - (k3 + 1))
                    case measure => omega
                    case rel => exact ⟨k3 + 1, v, by omega, rfl, by go_num, rfl, HFZ2, HS2.out.later xh⟩
                  · have m2 : 0 < rq := by have := HRQ.out; omega
                    by_cases hdd : d2 = od
                    · subst hdd
                      have HFZ2 : Hid (Fz l d2 (k3 + 1) v0 (k3 : Int)) := Lib.hid (.inr ⟨k3, r2 - 1, by omega, rfl, by rw [hd, show r2 - 1 + 1 = r2 by omega]⟩)
                      clear hd HFZ hstay hz HRQ
                      go_wp2
                      refine wp_region_later (by kernel_rfl) (by kernel_rfl) ?_
                      repeat (go_big_quiet_step (fail))
                      refine wpQuiet_nil ?_; intro xw hw'; obtain ⟨xq, hw''⟩ := hw'; obtain ⟨xw0, xh⟩ := xq; change xw = xw0 at hw''; subst hw''
                      go_wp2
                      go_roundg (l.length - (k3 + 1))
                      case measure => omega
                      case rel => exact ⟨k3 + 1, _, by omega, rfl, by go_num, rfl, HFZ2, HS2.out.later xh⟩
                    · have HFZ2 := Lib.hid (hstay (fun r h => by rw [hd] at h; cases h; exact hdd rfl))
                      clear hd HFZ hstay hz HRQ
                      have m3 : (d2.toList == od.toList) = false := bytes_ne hdd
                      clear hdd
                      go_wp2
                      refine wp_region_later (by kernel_rfl) (by kernel_rfl) ?_
                      repeat (go_big_quiet_step (fail))
                      refine wpQuiet_nil ?_; intro xw hw'; obtain ⟨xq, hw''⟩ := hw'; obtain ⟨xw0, xh⟩ := xq; change xw = xw0 at hw''; subst hw''
                      go_wp2
                      go_roundg (l.length - (k3 + 1))
                      case measure => omega
                      case rel => exact ⟨k3 + 1, v, by omega, rfl, by go_num, rfl, HFZ2, HS2.out.later xh⟩
                · obtain rfl : k3 = l.length := by omega
                  obtain rfl : v = (i : Int) := by
                    rcases HFZ.out with ⟨_, h⟩ | ⟨i', r', h1, h2, h4⟩
                    · exact absurd (by rw [HI.out, HRQ.out]) (h i r (List.getElem?_eq_some_iff.1 HI.out).1)
                    · rw [h2, HOK.out _ _ _ _ _ h4 (by rw [HI.out, HRQ.out])]
                  have hr1 : (rq : Int) + 1 = (rn : Int) := by have := HRQ.out; have := HRN.out; omega
                  have hr2 : (0 : Int) ≤ (rq : Int) := by omega
                  have hr3 : (rn : Int) < 140737488355328 := by have := HRQ.out; have := HRN.out; omega
                  clear HFZ HLZ h3
                  have hil : i < l.length := (List.getElem?_eq_some_iff.1 HI.out).1
                  obtain ⟨g4, rfl, _, hat4⟩ := HS2.out.rowAt 0 rfl (by omega)
                  have x4 := (hat4 (i)).1 _ (dcell_at HI.out)
                  have y4 := (hat4 (i)).2.1
                  have H4 := (hat4 (i)).2.2 (.string od)
                  obtain ⟨g5, rfl, _, hat5⟩ := H4.rowAt 1 rfl (by omega)
                  have x5 := (hat5 (i)).1 _ (rcell_at HI.out)
                  have y5 := (hat5 (i)).2.1
                  have H5 := (hat5 (i)).2.2 (.int .i64 (rn : Int))
                  have p2 := HS2.out.cell 3 rfl (k := 2) rfl
                  have z0 := H5.cell 4 rfl (k := 1) rfl
                  have v0' := H5.froz 4 rfl (k := 1)
                  simp only [zA] at z0 p2
                  obtain ⟨iq, HIQ⟩ : ∃ iq : Nat, Hid (iq = i + 1) := ⟨_, Lib.hid rfl⟩
                  have hiq : ((i : Nat) : Int) + 1 = (iq : Int) := by have := HIQ.out; omega
                  have hiq0 : (0 : Int) ≤ ((i : Nat) : Int) := by omega
                  have hneg : ¬ ((i : Nat) : Int) < 0 := by omega
                  have hiq1 : (iq : Int) < 140737488355328 := by have := HIQ.out; omega
                  have m1 : i < l.length := hil
                  rw [hiq] at HAS HEL2
                  have H8 := Lib.hid (H5.set 4 rfl (k := 1) (.int .i64 (iq : Int)))
                  have HL1 : Hid ((l.flatMap rcell).set (i) (.int .i64 (rn : Int)) = (l.set (i) (od, rn)).flatMap rcell ∧ (l.flatMap dcell).set (i) (.string od) = (l.set (i) (od, rn)).flatMap dcell) := Lib.hid ⟨rcell_set hil _ _, dcell_set hil _ _⟩
                  have HLN : Hid ((l.set (i) (od, rn)).length = l.length) := Lib.hid (List.length_set ..)
                  clear hat4 hat5 H4 H5 hil
                  go_upto_region 39 with (fail)
                  clear p2 x4 y4 x5 y5 z0 v0' HS2
                  generalize ((wr.setCell ⟨g4, i, none⟩ (.string od)).setCell ⟨g5, i, none⟩ (.int .i64 (rn : Int))).setCell ⟨gy, 1, none⟩ (.int .i64 (iq : Int)) = w2 at H8 ⊢
                  clear hiq hiq0 hiq1
                  have f0 := H8.out.cell 4 rfl (k := 0) rfl
                  have f1 := H8.out.cell 4 rfl (k := 1) rfl
                  have f2 := H8.out.cell 4 rfl (k := 2) rfl
                  simp only [zA, nos] at f0 f1 f2
                  have hnew := Lib.hid (Rd.of_own (own_new w2 49 #[.int .i64 0, .int .i64 (iq : Int), .string { data := #[] }] 3 1 rfl (by simp [maxLen]) (Nat.le_refl _)))
                  go_wp2_with (at_builtin; refine wpList_append_sep (H8.out.alloc _) 2 rfl (.tmp 156) (.tmp 158) 44 rfl 49 ti (.agg #[.int .i64 0, .int .i64 0, .string { data := #[] }]) 3 32 Try.underlying44 hti t0 t1 t2 rfl (by omega) _ k _ rfl rfl _ _ 1 1 _ rfl hnew.out (by simp [Value.oneCell']) (by simp only [maxLen]; omega) (by omega) ?_; intro A7 c7 w7 hc7 hs7 H7'; have H7 := Lib.hid H7'; clear H7')
                  go_roundg (n - (k + 1))
                  case measure => omega
                  case rel =>
                    refine ⟨k + 1, some ⟨g4, 0, none⟩, some ⟨g5, 0, none⟩, A7, c4, c5, c7, l.set (i) (od, rn), es ++ [⟨0, (iq : Int), nos⟩], by omega, rfl, by go_num, by rw [HLN.out], by rw [HLN.out], rfl, HEL2, HOK3, HSZ3, HBD3, Lib.hid ⟨es1, HP3.out, HAS.out⟩, ?_⟩
                    rw [List.flatMap_append, ← HL1.out.1, ← HL1.out.2, HLN.out]
                    exact H7.out.pick [0, 1, 2] (by decide) (by simp)
        | @again i d hk hsz hno hi hlow =>
          obtain rfl : ok = 1 := hk
          obtain ⟨rq, HRQ⟩ : ∃ rq : Nat, Hid (rq = 0) := ⟨_, Lib.hid rfl⟩
          obtain ⟨rn, HRN⟩ : ∃ rn : Nat, Hid (rn = 1) := ⟨_, Lib.hid rfl⟩
          have HI : Hid (l[i]? = some (d, rq)) := Lib.hid (by rw [HRQ.out]; exact hi)
          have HNO := Lib.hid hno
          have HLOW := Lib.hid hlow
          have HOK3 : Hid (Ok (l.set i (od, rn))) := Lib.hid (by rw [HRN.out]; exact HOK2.out)
          have HSZ3 : Hid (Sz (l.set i (od, rn))) := Lib.hid (by rw [HRN.out]; exact HSZ2.out)
          have HBD3 : Hid (Bd (l.set i (od, rn)) (k + 1)) := Lib.hid (by rw [HRN.out]; exact HBD2.out)
          have HP3 : Hid (Plays (l.set i (od, rn)) (ops.drop (k + 1)) es1 lf) := Lib.hid (by rw [HRN.out]; exact HP2.out)
          clear hi HOK2 HSZ2 HBD2 HP2 hno hlow
          have HV0 : Hid (Lz l l.length (-1)) := Lib.hid (.inl ⟨rfl, fun i d hi h => absurd (List.getElem?_eq_some_iff.1 h).1 (by omega)⟩)
          have hsz2 : ¬ 4096 < od.size := Nat.not_lt.2 hsz
          have hln : l.length < 140737488355328 := by omega
          clear hsz
          have p0 := HS2.out.cell 3 rfl (k := 0) rfl
          have p2 := HS2.out.cell 3 rfl (k := 2) rfl
          simp only at p0 p2
          go_wp2
          go_loopg [12, 13] l.length (fun g v12 v13 wl => ∃ v z : Int, v12 = .int .i64 v ∧ v13 = .int .i64 z ∧ Hid (z = (g : Int) - 1) ∧ g ≤ l.length ∧ Hid (Lz l g v) ∧ Sep w wl [.row 9 1 (.slice A4 l.length c4) l.length (l.flatMap dcell), .row 3 1 (.slice A5 l.length c5) l.length (l.flatMap rcell), .row 49 3 (.slice A6 k c6) k (es.flatMap A.cells), opC gx ⟨1, oi, od⟩, anC gy zA])
          case atStart => exact ⟨-1, _, rfl, rfl, Lib.hid rfl, Nat.le_refl _, HV0, HS2.out⟩
          case round =>
            clear HV0 HS2 p0 p2
            obtain ⟨v0, z, rfl, rfl, HZ, hg, HLZ, hs2⟩ := hrel
            have HS2 := Lib.hid hs2
            clear hs2
            cases gk with
            | succ j =>
              obtain rfl : z = (j : Int) := by have := HZ.out; omega
              have hg' : j + 1 ≤ l.length := hg
              obtain ⟨⟨d2, r2⟩, hd⟩ : ∃ x, l[j]? = some x := ⟨_, List.getElem?_eq_getElem (by omega)⟩
              obtain ⟨g5, rfl, _, hat⟩ := HS2.out.rowAt 1 rfl (by omega)
              have x5 := (hat j).1 _ (rcell_at hd)
              clear hat
              have m0 : (0 : Int) ≤ (j : Int) := by omega
              have m1 : j < l.length := by omega
              cases r2 with
              | zero =>
                have HLZ2 : Hid (Lz l j (j : Int)) := Lib.hid (.inr ⟨j, d2, rfl, Nat.le_refl _, hd, fun i' d' h1 h2 => by omega⟩)
                clear hd HLZ
                go_wp2
                go_roundg j
                case measure => omega
                case rel => exact ⟨_, _, rfl, rfl, Lib.hid rfl, by omega, HLZ2, HS2.out⟩
              | succ r2 =>
                obtain ⟨rq, HRQ⟩ : ∃ rq : Nat, Hid (rq = r2 + 1) := ⟨_, Lib.hid rfl⟩
                have HLZ2 : Hid (Lz l j v0) := Lib.hid (by
                  have here : ∀ (i : Nat) (d : ByteArray), i = j → l[i]? ≠ some (d, 0) := fun i d e h => by
                    subst e
                    rw [hd] at h
                    cases h
                  rcases HLZ.out with ⟨rfl, h⟩ | ⟨i, d, rfl, h1, h2, h3⟩
                  · exact .inl ⟨rfl, fun i d hi => by
                      by_cases hij : i = j
                      · exact here i d hij
                      · exact h i d (by omega)⟩
                  · exact .inr ⟨i, d, rfl, by omega, h2, fun i' d' h4 h5 => by
                      by_cases hij : i' = j
                      · exact here i' d' hij
                      · exact h3 i' d' (by omega) h5⟩)
                rw [← HRQ.out] at x5
                have m2 : ((rq : Int) == 0) = false := by rw [beq_eq_false_iff_ne]; have := HRQ.out; omega
                clear hd HLZ
                go_wp2
                go_roundg j
                case measure => omega
                case rel => exact ⟨_, _, rfl, rfl, Lib.hid rfl, by omega, HLZ2, HS2.out⟩
            | zero =>
              obtain rfl : z = -1 := by have := HZ.out; omega
              go_wp2
              go_loopg [12, 94] l.length (fun g v12 v94 wl => ∃ (k3 : Nat) (v : Int), k3 ≤ l.length ∧ g = l.length - k3 ∧ v94 = .int .i64 (k3 : Int) ∧ v12 = .int .i64 v ∧ Hid (Fz l od k3 v0 v) ∧ Sep w wl [.row 9 1 (.slice A4 l.length c4) l.length (l.flatMap dcell), .row 3 1 (.slice A5 l.length c5) l.length (l.flatMap rcell), .row 49 3 (.slice A6 k c6) k (es.flatMap A.cells), opC gx ⟨1, oi, od⟩, anC gy zA])
              case atStart => exact ⟨0, _, Nat.zero_le _, rfl, rfl, rfl, Lib.hid (.inl ⟨rfl, fun i r h => absurd h (by omega)⟩), HS2.out⟩
              case round =>
                clear HS2
                obtain ⟨k3, v, hk3, rfl, rfl, rfl, HFZ, hs2⟩ := hrel
                have HS2 := Lib.hid hs2
                clear hs2
                by_cases h3 : k3 < l.length
                · obtain ⟨⟨d2, r2⟩, hd⟩ : ∃ x, l[k3]? = some x := ⟨_, List.getElem?_eq_getElem h3⟩
                  obtain ⟨g5, rfl, _, hat⟩ := HS2.out.rowAt 1 rfl (by omega)
                  have x5 := (hat k3).1 _ (rcell_at hd)
                  clear hat
                  obtain ⟨g4, rfl, _, hat⟩ := HS2.out.rowAt 0 rfl (by omega)
                  have x4 := (hat k3).1 _ (dcell_at hd)
                  clear hat
                  have p2 := HS2.out.cell 3 rfl (k := 2) rfl
                  simp only at p2
                  have m0 : (0 : Int) ≤ (k3 : Int) := by omega
                  have m1 : (k3 : Int) < (l.length : Int) := by omega
                  obtain ⟨rq, HRQ⟩ : ∃ rq : Nat, Hid (rq = r2) := ⟨_, Lib.hid rfl⟩
                  rw [← HRQ.out] at x5
                  have y5 := fun zz : LaterOf wr => zz.cell x5
                  have y4 := fun zz : LaterOf wr => zz.cell x4
                  have y2 := fun zz : LaterOf wr => zz.cell p2
                  clear x5 x4 p2
                  have hstay : (∀ r : Nat, l[k3]? ≠ some (od, r + 1)) → Fz l od (k3 + 1) v0 v := fun h => by
                    rcases HFZ.out with ⟨e, h1⟩ | ⟨i, r, h1, h2, h4⟩
                    · exact .inl ⟨e, fun i r hi => by
                        by_cases hik : i = k3
                        · subst hik; exact h r
                        · exact h1 i r (by omega)⟩
                    · exact .inr ⟨i, r, by omega, h2, h4⟩
                  by_cases hz : r2 = 0
                  · have m2 : ¬ 0 < rq := by have := HRQ.out; omega
                    have HFZ2 := Lib.hid (hstay (fun r h => by rw [hd] at h; cases h; omega))
                    clear hd HFZ hstay hz HRQ
                    go_wp2
                    refine wp_region_later (by kernel_rfl) (by kernel_rfl) ?_
                    repeat (go_big_quiet_step (fail))
                    refine wpQuiet_nil ?_; intro xw hw'; obtain ⟨xq, hw''⟩ := hw'; obtain ⟨xw0, xh⟩ := xq; change xw = xw0 at hw''; subst hw''
                    go_wp2
                    go_roundg (l.length - (k3 + 1))
                    case measure => omega
                    case rel => exact ⟨k3 + 1, v, by omega, rfl, by go_num, rfl, HFZ2, HS2.out.later xh⟩
                  · have m2 : 0 < rq := by have := HRQ.out; omega
                    by_cases hdd : d2 = od
                    · subst hdd
                      have HFZ2 : Hid (Fz l d2 (k3 + 1) v0 (k3 : Int)) := Lib.hid (.inr ⟨k3, r2 - 1, by omega, rfl, by rw [hd, show r2 - 1 + 1 = r2 by omega]⟩)
                      clear hd HFZ hstay hz HRQ
                      go_wp2
                      refine wp_region_later (by kernel_rfl) (by kernel_rfl) ?_
                      repeat (go_big_quiet_step (fail))
                      refine wpQuiet_nil ?_; intro xw hw'; obtain ⟨xq, hw''⟩ := hw'; obtain ⟨xw0, xh⟩ := xq; change xw = xw0 at hw''; subst hw''
                      go_wp2
                      go_roundg (l.length - (k3 + 1))
                      case measure => omega
                      case rel => exact ⟨k3 + 1, _, by omega, rfl, by go_num, rfl, HFZ2, HS2.out.later xh⟩
                    · have HFZ2 := Lib.hid (hstay (fun r h => by rw [hd] at h; cases h; exact hdd rfl))
                      clear hd HFZ hstay hz HRQ
                      have m3 : (d2.toList == od.toList) = false := bytes_ne hdd
                      clear hdd
                      go_wp2
                      refine wp_region_later (by kernel_rfl) (by kernel_rfl) ?_
                      repeat (go_big_quiet_step (fail))
                      refine wpQuiet_nil ?_; intro xw hw'; obtain ⟨xq, hw''⟩ := hw'; obtain ⟨xw0, xh⟩ := xq; change xw = xw0 at hw''; subst hw''
                      go_wp2
                      go_roundg (l.length - (k3 + 1))
                      case measure => omega
                      case rel => exact ⟨k3 + 1, v, by omega, rfl, by go_num, rfl, HFZ2, HS2.out.later xh⟩
                · obtain rfl : k3 = l.length := by omega
                  obtain rfl : v = (i : Int) := by
                    rcases HFZ.out with ⟨rfl, h⟩ | ⟨i', r', h1, h2, h4⟩
                    · rcases HLZ.out with ⟨_, h5⟩ | ⟨i2, d2, rfl, _, h6, h7⟩
                      · exact absurd (by rw [HI.out, HRQ.out]) (h5 i d (Nat.zero_le _))
                      · have h8 : i2 = i := by
                          rcases Nat.lt_trichotomy i2 i with h8 | h8 | h8
                          · have := HLOW.out _ _ _ h8 h6
                            omega
                          · exact h8
                          · exact absurd (by rw [HI.out, HRQ.out]) (h7 i d (Nat.zero_le _) h8)
                        rw [h8]
                    · exact absurd h4 (HNO.out _ _)
                  have hr1 : (rq : Int) + 1 = (rn : Int) := by have := HRQ.out; have := HRN.out; omega
                  have hr2 : (0 : Int) ≤ (rq : Int) := by omega
                  have hr3 : (rn : Int) < 140737488355328 := by have := HRQ.out; have := HRN.out; omega
                  clear HFZ HLZ h3
                  have hil : i < l.length := (List.getElem?_eq_some_iff.1 HI.out).1
                  obtain ⟨g4, rfl, _, hat4⟩ := HS2.out.rowAt 0 rfl (by omega)
                  have x4 := (hat4 (i)).1 _ (dcell_at HI.out)
                  have y4 := (hat4 (i)).2.1
                  have H4 := (hat4 (i)).2.2 (.string od)
                  obtain ⟨g5, rfl, _, hat5⟩ := H4.rowAt 1 rfl (by omega)
                  have x5 := (hat5 (i)).1 _ (rcell_at HI.out)
                  have y5 := (hat5 (i)).2.1
                  have H5 := (hat5 (i)).2.2 (.int .i64 (rn : Int))
                  have p2 := HS2.out.cell 3 rfl (k := 2) rfl
                  have z0 := H5.cell 4 rfl (k := 1) rfl
                  have v0' := H5.froz 4 rfl (k := 1)
                  simp only [zA] at z0 p2
                  obtain ⟨iq, HIQ⟩ : ∃ iq : Nat, Hid (iq = i + 1) := ⟨_, Lib.hid rfl⟩
                  have hiq : ((i : Nat) : Int) + 1 = (iq : Int) := by have := HIQ.out; omega
                  have hiq0 : (0 : Int) ≤ ((i : Nat) : Int) := by omega
                  have hneg : ¬ ((i : Nat) : Int) < 0 := by omega
                  have hiq1 : (iq : Int) < 140737488355328 := by have := HIQ.out; omega
                  have m1 : i < l.length := hil
                  rw [hiq] at HAS HEL2
                  have H8 := Lib.hid (H5.set 4 rfl (k := 1) (.int .i64 (iq : Int)))
                  have HL1 : Hid ((l.flatMap rcell).set (i) (.int .i64 (rn : Int)) = (l.set (i) (od, rn)).flatMap rcell ∧ (l.flatMap dcell).set (i) (.string od) = (l.set (i) (od, rn)).flatMap dcell) := Lib.hid ⟨rcell_set hil _ _, dcell_set hil _ _⟩
                  have HLN : Hid ((l.set (i) (od, rn)).length = l.length) := Lib.hid (List.length_set ..)
                  clear hat4 hat5 H4 H5 hil
                  go_upto_region 39 with (fail)
                  clear p2 x4 y4 x5 y5 z0 v0' HS2
                  generalize ((wr.setCell ⟨g4, i, none⟩ (.string od)).setCell ⟨g5, i, none⟩ (.int .i64 (rn : Int))).setCell ⟨gy, 1, none⟩ (.int .i64 (iq : Int)) = w2 at H8 ⊢
                  clear hiq hiq0 hiq1
                  have f0 := H8.out.cell 4 rfl (k := 0) rfl
                  have f1 := H8.out.cell 4 rfl (k := 1) rfl
                  have f2 := H8.out.cell 4 rfl (k := 2) rfl
                  simp only [zA, nos] at f0 f1 f2
                  have hnew := Lib.hid (Rd.of_own (own_new w2 49 #[.int .i64 0, .int .i64 (iq : Int), .string { data := #[] }] 3 1 rfl (by simp [maxLen]) (Nat.le_refl _)))
                  go_wp2_with (at_builtin; refine wpList_append_sep (H8.out.alloc _) 2 rfl (.tmp 156) (.tmp 158) 44 rfl 49 ti (.agg #[.int .i64 0, .int .i64 0, .string { data := #[] }]) 3 32 Try.underlying44 hti t0 t1 t2 rfl (by omega) _ k _ rfl rfl _ _ 1 1 _ rfl hnew.out (by simp [Value.oneCell']) (by simp only [maxLen]; omega) (by omega) ?_; intro A7 c7 w7 hc7 hs7 H7'; have H7 := Lib.hid H7'; clear H7')
                  go_roundg (n - (k + 1))
                  case measure => omega
                  case rel =>
                    refine ⟨k + 1, some ⟨g4, 0, none⟩, some ⟨g5, 0, none⟩, A7, c4, c5, c7, l.set (i) (od, rn), es ++ [⟨0, (iq : Int), nos⟩], by omega, rfl, by go_num, by rw [HLN.out], by rw [HLN.out], rfl, HEL2, HOK3, HSZ3, HBD3, Lib.hid ⟨es1, HP3.out, HAS.out⟩, ?_⟩
                    rw [List.flatMap_append, ← HL1.out.1, ← HL1.out.2, HLN.out]
                    exact H7.out.pick [0, 1, 2] (by decide) (by simp)
        | @new hk hsz hno hall =>
          obtain rfl : ok = 1 := hk
          obtain ⟨l2, HL2⟩ : ∃ l2, Hid (l2 = l ++ [(nos, 0)]) := ⟨_, Lib.hid rfl⟩
          obtain ⟨rq, HRQ⟩ : ∃ rq : Nat, Hid (rq = 0) := ⟨_, Lib.hid rfl⟩
          obtain ⟨rn, HRN⟩ : ∃ rn : Nat, Hid (rn = 1) := ⟨_, Lib.hid rfl⟩
          have hl2 : l2.set l.length (od, rn) = l ++ [(od, 1)] := by rw [HL2.out, HRN.out, List.set_append_right _ _ (Nat.le_refl _), Nat.sub_self, List.set_cons_zero]
          have HI : Hid (l2[l.length]? = some (nos, rq)) := Lib.hid (by rw [HL2.out, HRQ.out]; simp)
          have HLL : Hid (l2.length = l.length + 1) := Lib.hid (by rw [HL2.out, List.length_append]; rfl)
          have HNO := Lib.hid hno
          have HALL := Lib.hid hall
          have HOK3 : Hid (Ok (l2.set l.length (od, rn))) := Lib.hid (by rw [hl2]; exact HOK2.out)
          have HSZ3 : Hid (Sz (l2.set l.length (od, rn))) := Lib.hid (by rw [hl2]; exact HSZ2.out)
          have HBD3 : Hid (Bd (l2.set l.length (od, rn)) (k + 1)) := Lib.hid (by rw [hl2]; exact HBD2.out)
          have HP3 : Hid (Plays (l2.set l.length (od, rn)) (ops.drop (k + 1)) es1 lf) := Lib.hid (by rw [hl2]; exact HP2.out)
          have HDR : Hid (l2.flatMap dcell = l.flatMap dcell ++ [.string { data := #[] }] ∧ l2.flatMap rcell = l.flatMap rcell ++ [.int .i64 0]) := Lib.hid (by rw [HL2.out, List.flatMap_append, List.flatMap_append]; exact ⟨rfl, rfl⟩)
          clear HOK2 HSZ2 HBD2 HP2 hno hall hl2
          have HV0 : Hid (Lz l l.length (-1)) := Lib.hid (.inl ⟨rfl, fun i d hi h => absurd (List.getElem?_eq_some_iff.1 h).1 (by omega)⟩)
          have hsz2 : ¬ 4096 < od.size := Nat.not_lt.2 hsz
          have hln : l.length < 140737488355328 := by omega
          clear hsz
          have p0 := HS2.out.cell 3 rfl (k := 0) rfl
          have p2 := HS2.out.cell 3 rfl (k := 2) rfl
          simp only at p0 p2
          go_wp2
          go_loopg [12, 13] l.length (fun g v12 v13 wl => ∃ v z : Int, v12 = .int .i64 v ∧ v13 = .int .i64 z ∧ Hid (z = (g : Int) - 1) ∧ g ≤ l.length ∧ Hid (Lz l g v) ∧ Sep w wl [.row 9 1 (.slice A4 l.length c4) l.length (l.flatMap dcell), .row 3 1 (.slice A5 l.length c5) l.length (l.flatMap rcell), .row 49 3 (.slice A6 k c6) k (es.flatMap A.cells), opC gx ⟨1, oi, od⟩, anC gy zA])
          case atStart => exact ⟨-1, _, rfl, rfl, Lib.hid rfl, Nat.le_refl _, HV0, HS2.out⟩
          case round =>
            clear HV0 HS2 p0 p2
            obtain ⟨v0, z, rfl, rfl, HZ, hg, HLZ, hs2⟩ := hrel
            have HS2 := Lib.hid hs2
            clear hs2
            cases gk with
            | succ j =>
              obtain rfl : z = (j : Int) := by have := HZ.out; omega
              have hg' : j + 1 ≤ l.length := hg
              obtain ⟨⟨d2, r2⟩, hd⟩ : ∃ x, l[j]? = some x := ⟨_, List.getElem?_eq_getElem (by omega)⟩
              obtain ⟨g5, rfl, _, hat⟩ := HS2.out.rowAt 1 rfl (by omega)
              have x5 := (hat j).1 _ (rcell_at hd)
              clear hat
              have m0 : (0 : Int) ≤ (j : Int) := by omega
              have m1 : j < l.length := by omega
              cases r2 with
              | zero =>
                have HLZ2 : Hid (Lz l j (j : Int)) := Lib.hid (.inr ⟨j, d2, rfl, Nat.le_refl _, hd, fun i' d' h1 h2 => by omega⟩)
                clear hd HLZ
                go_wp2
                go_roundg j
                case measure => omega
                case rel => exact ⟨_, _, rfl, rfl, Lib.hid rfl, by omega, HLZ2, HS2.out⟩
              | succ r2 =>
                obtain ⟨rq, HRQ⟩ : ∃ rq : Nat, Hid (rq = r2 + 1) := ⟨_, Lib.hid rfl⟩
                have HLZ2 : Hid (Lz l j v0) := Lib.hid (by
                  have here : ∀ (i : Nat) (d : ByteArray), i = j → l[i]? ≠ some (d, 0) := fun i d e h => by
                    subst e
                    rw [hd] at h
                    cases h
                  rcases HLZ.out with ⟨rfl, h⟩ | ⟨i, d, rfl, h1, h2, h3⟩
                  · exact .inl ⟨rfl, fun i d hi => by
                      by_cases hij : i = j
                      · exact here i d hij
                      · exact h i d (by omega)⟩
                  · exact .inr ⟨i, d, rfl, by omega, h2, fun i' d' h4 h5 => by
                      by_cases hij : i' = j
                      · exact here i' d' hij
                      · exact h3 i' d' (by omega) h5⟩)
                rw [← HRQ.out] at x5
                have m2 : ((rq : Int) == 0) = false := by rw [beq_eq_false_iff_ne]; have := HRQ.out; omega
                clear hd HLZ
                go_wp2
                go_roundg j
                case measure => omega
                case rel => exact ⟨_, _, rfl, rfl, Lib.hid rfl, by omega, HLZ2, HS2.out⟩
            | zero =>
              obtain rfl : z = -1 := by have := HZ.out; omega
              go_wp2
              go_loopg [12, 94] l.length (fun g v12 v94 wl => ∃ (k3 : Nat) (v : Int), k3 ≤ l.length ∧ g = l.length - k3 ∧ v94 = .int .i64 (k3 : Int) ∧ v12 = .int .i64 v ∧ Hid (Fz l od k3 v0 v) ∧ Sep w wl [.row 9 1 (.slice A4 l.length c4) l.length (l.flatMap dcell), .row 3 1 (.slice A5 l.length c5) l.length (l.flatMap rcell), .row 49 3 (.slice A6 k c6) k (es.flatMap A.cells), opC gx ⟨1, oi, od⟩, anC gy zA])
              case atStart => exact ⟨0, _, Nat.zero_le _, rfl, rfl, rfl, Lib.hid (.inl ⟨rfl, fun i r h => absurd h (by omega)⟩), HS2.out⟩
              case round =>
                clear HS2
                obtain ⟨k3, v, hk3, rfl, rfl, rfl, HFZ, hs2⟩ := hrel
                have HS2 := Lib.hid hs2
                clear hs2
                by_cases h3 : k3 < l.length
                · obtain ⟨⟨d2, r2⟩, hd⟩ : ∃ x, l[k3]? = some x := ⟨_, List.getElem?_eq_getElem h3⟩
                  obtain ⟨g5, rfl, _, hat⟩ := HS2.out.rowAt 1 rfl (by omega)
                  have x5 := (hat k3).1 _ (rcell_at hd)
                  clear hat
                  obtain ⟨g4, rfl, _, hat⟩ := HS2.out.rowAt 0 rfl (by omega)
                  have x4 := (hat k3).1 _ (dcell_at hd)
                  clear hat
                  have p2 := HS2.out.cell 3 rfl (k := 2) rfl
                  simp only at p2
                  have m0 : (0 : Int) ≤ (k3 : Int) := by omega
                  have m1 : (k3 : Int) < (l.length : Int) := by omega
                  obtain ⟨rq, HRQ⟩ : ∃ rq : Nat, Hid (rq = r2) := ⟨_, Lib.hid rfl⟩
                  rw [← HRQ.out] at x5
                  have y5 := fun zz : LaterOf wr => zz.cell x5
                  have y4 := fun zz : LaterOf wr => zz.cell x4
                  have y2 := fun zz : LaterOf wr => zz.cell p2
                  clear x5 x4 p2
                  have hstay : (∀ r : Nat, l[k3]? ≠ some (od, r + 1)) → Fz l od (k3 + 1) v0 v := fun h => by
                    rcases HFZ.out with ⟨e, h1⟩ | ⟨i, r, h1, h2, h4⟩
                    · exact .inl ⟨e, fun i r hi => by
                        by_cases hik : i = k3
                        · subst hik; exact h r
                        · exact h1 i r (by omega)⟩
                    · exact .inr ⟨i, r, by omega, h2, h4⟩
                  by_cases hz : r2 = 0
                  · have m2 : ¬ 0 < rq := by have := HRQ.out; omega
                    have HFZ2 := Lib.hid (hstay (fun r h => by rw [hd] at h; cases h; omega))
                    clear hd HFZ hstay hz HRQ
                    go_wp2
                    refine wp_region_later (by kernel_rfl) (by kernel_rfl) ?_
                    repeat (go_big_quiet_step (fail))
                    refine wpQuiet_nil ?_; intro xw hw'; obtain ⟨xq, hw''⟩ := hw'; obtain ⟨xw0, xh⟩ := xq; change xw = xw0 at hw''; subst hw''
                    go_wp2
                    go_roundg (l.length - (k3 + 1))
                    case measure => omega
                    case rel => exact ⟨k3 + 1, v, by omega, rfl, by go_num, rfl, HFZ2, HS2.out.later xh⟩
                  · have m2 : 0 < rq := by have := HRQ.out; omega
                    by_cases hdd : d2 = od
                    · subst hdd
                      have HFZ2 : Hid (Fz l d2 (k3 + 1) v0 (k3 : Int)) := Lib.hid (.inr ⟨k3, r2 - 1, by omega, rfl, by rw [hd, show r2 - 1 + 1 = r2 by omega]⟩)
                      clear hd HFZ hstay hz HRQ
                      go_wp2
                      refine wp_region_later (by kernel_rfl) (by kernel_rfl) ?_
                      repeat (go_big_quiet_step (fail))
                      refine wpQuiet_nil ?_; intro xw hw'; obtain ⟨xq, hw''⟩ := hw'; obtain ⟨xw0, xh⟩ := xq; change xw = xw0 at hw''; subst hw''
                      go_wp2
                      go_roundg (l.length - (k3 + 1))
                      case measure => omega
                      case rel => exact ⟨k3 + 1, _, by omega, rfl, by go_num, rfl, HFZ2, HS2.out.later xh⟩
                    · have HFZ2 := Lib.hid (hstay (fun r h => by rw [hd] at h; cases h; exact hdd rfl))
                      clear hd HFZ hstay hz HRQ
                      have m3 : (d2.toList == od.toList) = false := bytes_ne hdd
                      clear hdd
                      go_wp2
                      refine wp_region_later (by kernel_rfl) (by kernel_rfl) ?_
                      repeat (go_big_quiet_step (fail))
                      refine wpQuiet_nil ?_; intro xw hw'; obtain ⟨xq, hw''⟩ := hw'; obtain ⟨xw0, xh⟩ := xq; change xw = xw0 at hw''; subst hw''
                      go_wp2
                      go_roundg (l.length - (k3 + 1))
                      case measure => omega
                      case rel => exact ⟨k3 + 1, v, by omega, rfl, by go_num, rfl, HFZ2, HS2.out.later xh⟩
                · obtain rfl : k3 = l.length := by omega
                  obtain rfl : v = -1 := by
                    rcases HFZ.out with ⟨rfl, h⟩ | ⟨i', r', h1, h2, h4⟩
                    · rcases HLZ.out with ⟨h5, _⟩ | ⟨i2, d2, rfl, _, h6, h7⟩
                      · exact h5
                      · exact absurd (HALL.out _ _ _ h6) (by omega)
                    · exact absurd h4 (HNO.out _ _)
                  clear HFZ HLZ h3
                  go_upto_region 31 with (at_builtin; first
                    | (refine wpList_append_sep (HS2.out.alloc _) 0 rfl (.tmp 117) (.tmp 118) 86 rfl 9 si (.string { data := #[] }) 1 16 Try.underlying86 hsi s0 s1 s2 rfl (by omega) _ l.length _ rfl rfl _ _ 1 1 _ rfl (Rd.of_own (own_new wr 9 #[.string { data := #[] }] 1 1 rfl (by simp [maxLen]) (Nat.le_refl _))) (by simp [Value.oneCell']) (by simp only [maxLen]; omega) (by omega) ?_; intro A8 c8 w8 hc8 hs8 H8'; have H8a := Lib.hid H8'; clear H8')
                    | (refine wpList_append_sep (H8a.out.alloc _) 1 rfl (.tmp 120) (.tmp 121) 37 rfl 3 ii (.int .i64 0) 1 8 Try.underlying37 hii j0 j1 j2 rfl (by omega) _ l.length _ rfl rfl _ _ 1 1 _ rfl (Rd.of_own (own_new w8 3 #[.int .i64 0] 1 1 rfl (by simp [maxLen]) (Nat.le_refl _))) (by simp [Value.oneCell']) (by simp only [maxLen]; omega) (by omega) ?_; intro A9 c9 w9 hc9 hs9 H9'; have H9a := Lib.hid H9'; clear H9'))
                  have HS3 : Hid (Sep w w9 [.row 9 1 (.slice A8 l2.length c8) l2.length (l2.flatMap dcell), .row 3 1 (.slice A9 l2.length c9) l2.length (l2.flatMap rcell), .row 49 3 (.slice A6 k c6) k (es.flatMap A.cells), opC gx ⟨1, oi, od⟩, anC gy zA]) := Lib.hid (by
                    rw [HDR.out.1, HDR.out.2, HLL.out]
                    exact H9a.out)
                  rw [← HLL.out]
                  clear H8a H9a HS2 hc8 hc9 hs8 hs9
                  have HS2 := HS3
                  clear HS3
                  have hr1 : (rq : Int) + 1 = (rn : Int) := by have := HRQ.out; have := HRN.out; omega
                  have hr2 : (0 : Int) ≤ (rq : Int) := by omega
                  have hr3 : (rn : Int) < 140737488355328 := by have := HRQ.out; have := HRN.out; omega
                  have hil : l.length < l2.length := (List.getElem?_eq_some_iff.1 HI.out).1
                  obtain ⟨g4, rfl, _, hat4⟩ := HS2.out.rowAt 0 rfl (by omega)
                  have x4 := (hat4 (l.length)).1 _ (dcell_at HI.out)
                  have y4 := (hat4 (l.length)).2.1
                  have H4 := (hat4 (l.length)).2.2 (.string od)
                  obtain ⟨g5, rfl, _, hat5⟩ := H4.rowAt 1 rfl (by omega)
                  have x5 := (hat5 (l.length)).1 _ (rcell_at HI.out)
                  have y5 := (hat5 (l.length)).2.1
                  have H5 := (hat5 (l.length)).2.2 (.int .i64 (rn : Int))
                  have p2 := HS2.out.cell 3 rfl (k := 2) rfl
                  have z0 := H5.cell 4 rfl (k := 1) rfl
                  have v0' := H5.froz 4 rfl (k := 1)
                  simp only [zA] at z0 p2
                  obtain ⟨iq, HIQ⟩ : ∃ iq : Nat, Hid (iq = l.length + 1) := ⟨_, Lib.hid rfl⟩
                  have hiq : ((l.length : Nat) : Int) + 1 = (iq : Int) := by have := HIQ.out; omega
                  have hiq0 : (0 : Int) ≤ ((l.length : Nat) : Int) := by omega
                  have hneg : ¬ ((l.length : Nat) : Int) < 0 := by omega
                  have hiq1 : (iq : Int) < 140737488355328 := by have := HIQ.out; omega
                  have m1 : l.length < l2.length := hil
                  rw [hiq] at HAS HEL2
                  have H8 := Lib.hid (H5.set 4 rfl (k := 1) (.int .i64 (iq : Int)))
                  have HL1 : Hid ((l2.flatMap rcell).set (l.length) (.int .i64 (rn : Int)) = (l2.set (l.length) (od, rn)).flatMap rcell ∧ (l2.flatMap dcell).set (l.length) (.string od) = (l2.set (l.length) (od, rn)).flatMap dcell) := Lib.hid ⟨rcell_set hil _ _, dcell_set hil _ _⟩
                  have HLN : Hid ((l2.set (l.length) (od, rn)).length = l2.length) := Lib.hid (List.length_set ..)
                  clear hat4 hat5 H4 H5 hil
                  go_upto_region 39 with (fail)
                  clear p2 x4 y4 x5 y5 z0 v0' HS2
                  generalize ((w9.setCell ⟨g4, l.length, none⟩ (.string od)).setCell ⟨g5, l.length, none⟩ (.int .i64 (rn : Int))).setCell ⟨gy, 1, none⟩ (.int .i64 (iq : Int)) = w2 at H8 ⊢
                  clear hiq hiq0 hiq1
                  have f0 := H8.out.cell 4 rfl (k := 0) rfl
                  have f1 := H8.out.cell 4 rfl (k := 1) rfl
                  have f2 := H8.out.cell 4 rfl (k := 2) rfl
                  simp only [zA, nos] at f0 f1 f2
                  have hnew := Lib.hid (Rd.of_own (own_new w2 49 #[.int .i64 0, .int .i64 (iq : Int), .string { data := #[] }] 3 1 rfl (by simp [maxLen]) (Nat.le_refl _)))
                  go_wp2_with (at_builtin; refine wpList_append_sep (H8.out.alloc _) 2 rfl (.tmp 156) (.tmp 158) 44 rfl 49 ti (.agg #[.int .i64 0, .int .i64 0, .string { data := #[] }]) 3 32 Try.underlying44 hti t0 t1 t2 rfl (by omega) _ k _ rfl rfl _ _ 1 1 _ rfl hnew.out (by simp [Value.oneCell']) (by simp only [maxLen]; omega) (by omega) ?_; intro A7 c7 w7 hc7 hs7 H7'; have H7 := Lib.hid H7'; clear H7')
                  go_roundg (n - (k + 1))
                  case measure => omega
                  case rel =>
                    refine ⟨k + 1, some ⟨g4, 0, none⟩, some ⟨g5, 0, none⟩, A7, c8, c9, c7, l2.set (l.length) (od, rn), es ++ [⟨0, (iq : Int), nos⟩], by omega, rfl, by go_num, by rw [HLN.out], by rw [HLN.out], rfl, HEL2, HOK3, HSZ3, HBD3, Lib.hid ⟨es1, HP3.out, HAS.out⟩, ?_⟩
                    rw [List.flatMap_append, ← HL1.out.1, ← HL1.out.2, HLN.out]
                    exact H7.out.pick [0, 1, 2] (by decide) (by simp)
    · obtain rfl : k = n := by omega
      obtain ⟨es', h1, h2⟩ := HF.out
      rw [List.drop_of_length_le (by rw [HL.out]; omega)] at h1
      cases h1
      rw [List.append_nil] at h2
      subst h2
      have hll := HBD.out.1
      clear HF
      go_wp2
      go_loopg [15, 163] lf.length (fun g v15 v163 wl => ∃ (j q : Nat), j ≤ lf.length ∧ g = lf.length - j ∧ v163 = .int .i64 (j : Int) ∧ v15 = .int .i64 (q : Int) ∧ Hid (q = live (lf.take j)) ∧ q ≤ j ∧ Sep w wl [.row 9 1 (.slice A4 lf.length c4) lf.length (lf.flatMap dcell), .row 3 1 (.slice A5 lf.length c5) lf.length (lf.flatMap rcell), .row 49 3 (.slice A6 k c6) k (as_.flatMap A.cells)])
      case atStart => exact ⟨0, 0, Nat.zero_le _, rfl, rfl, rfl, Lib.hid rfl, Nat.le_refl _, HS.out⟩
      case round =>
        clear HS
        obtain ⟨j, q, hj, rfl, rfl, rfl, HQ, hqj, hs2⟩ := hrel
        have HS := Lib.hid hs2
        clear hs2
        by_cases hlt2 : j < lf.length
        · obtain ⟨⟨d2, r2⟩, hd⟩ : ∃ x, lf[j]? = some x := ⟨_, List.getElem?_eq_getElem hlt2⟩
          obtain ⟨g5, rfl, _, hat⟩ := HS.out.rowAt 1 rfl (by omega)
          have x5 := (hat j).1 _ (rcell_at hd)
          have m0 : (0 : Int) ≤ (j : Int) := by omega
          have m1 : (j : Int) < (lf.length : Int) := by omega
          have hlv := live_take hd
          obtain ⟨rq, HRQ⟩ : ∃ rq : Nat, Hid (rq = r2) := ⟨_, Lib.hid rfl⟩
          rw [← HRQ.out] at x5
          by_cases hz : r2 = 0
          · have m2 : ¬ 0 < rq := by have := HRQ.out; omega
            have HQ2 : Hid (q = live (lf.take (j + 1))) := Lib.hid (by rw [hlv, if_neg (by omega), Nat.add_zero, HQ.out])
            clear hat hd hz hlv HRQ
            go_wp2
            go_roundg (lf.length - (j + 1))
            case measure => omega
            case rel => exact ⟨j + 1, q, by omega, rfl, by go_num, rfl, HQ2, by omega, HS.out⟩
          · have m2 : 0 < rq := by have := HRQ.out; omega
            obtain ⟨qn, HQN⟩ : ∃ qn : Nat, Hid (qn = q + 1) := ⟨_, Lib.hid rfl⟩
            have HQ2 : Hid (qn = live (lf.take (j + 1))) := Lib.hid (by rw [hlv, if_pos (by omega), HQN.out, HQ.out])
            have m3 : (q : Int) + 1 = (qn : Int) := by have := HQN.out; omega
            have m4 : (0 : Int) ≤ (q : Int) := by omega
            have m5 : (qn : Int) < 140737488355328 := by have := HQN.out; omega
            clear hat hd hz hlv HRQ
            go_wp2
            go_roundg (lf.length - (j + 1))
            case measure => omega
            case rel => exact ⟨j + 1, qn, by omega, rfl, by go_num, rfl, HQ2, by have := HQN.out; omega, HS.out⟩
        · obtain rfl : j = lf.length := by omega
          have hq : q = live lf := by rw [HQ.out, List.take_length]
          subst hq
          go_wp2
          refine bodyPost_ret (v := .tuple #[.slice A6 k c6, .int .i64 (live lf : Int)]) (by simp [results, Try.results20]) rfl ?_
          exact ⟨A6, c6, rfl, HS.out.pick [2] (by decide) (by simp)⟩
end Dd
end Go.Proofs.Ytmbkonhclniolaa
