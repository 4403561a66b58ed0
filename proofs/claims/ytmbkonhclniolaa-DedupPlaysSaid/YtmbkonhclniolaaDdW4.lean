/-
  Walk of dedup.Play. Conditions: none beyond the theorem's own premises.
-/
import Derived.Test.YtmbkonhclniolaaDdW3
namespace Go.Proofs.Ytmbkonhclniolaa
open Go.RowKit
set_option linter.unusedVariables false
namespace Dd

theorem O.len : ∀ o : O, o.cells.length = 3 := fun _ => rfl
theorem A.len : ∀ a : A, a.cells.length = 3 := fun _ => rfl
theorem ans_info : (Try.prog.info? 49).map (fun i => (i.zero, i.size, i.bytes)) = some (some (.agg #[.int .i64 0, .int .i64 0, .string { data := #[] }]), 3, 32) := by kernel_rfl
theorem drop_at {α : Type} {l : List α} {k : Nat} {x : α} (h : l[k]? = some x) : l.drop k = x :: l.drop (k + 1) := by
  obtain ⟨hk, rfl⟩ := List.getElem?_eq_some_iff.1 h
  exact List.drop_eq_getElem_cons hk
/-- no content is longer than may be -/
def Sz (l : S) : Prop := ∀ (i : Nat) (d : ByteArray) (r : Nat), l[i]? = some (d, r) → d.size ≤ 4096
theorem way_sz {l l' : S} {o : O} {a : A} (h : Sz l) (hw : Way l o a l') : Sz l' := by
  cases hw with
  | held hk hs hi => intro j d r hj; rcases get_set hj with ⟨_, e, _⟩ | ⟨_, hj⟩; · cases e; exact hs
                     · exact h _ _ _ hj
  | again hk hs hno hi hlow => intro j d r hj; rcases get_set hj with ⟨_, e, _⟩ | ⟨_, hj⟩; · cases e; exact hs
                               · exact h _ _ _ hj
  | drop hk hi hid => intro j d r hj; rcases get_set hj with ⟨_, e, _⟩ | ⟨_, hj⟩; · cases e; exact h _ _ _ hi
                      · exact h _ _ _ hj
  | new hk hs hno hall => intro j d r hj; rcases get_snoc hj with ⟨_, e⟩ | ⟨_, hj⟩; · cases e; exact hs
                          · exact h _ _ _ hj
  | _ => exact h
def PlayRet (w : World) (n : Nat) (as_ : List A) (lf : S) (e : Ending) (w' : World) : Prop :=
  ∃ A1 c1, e = .returned (.tuple #[.slice A1 n c1, .int .i64 (live lf : Int)]) ∧ Sep w w' [.row 49 3 (.slice A1 n c1) n (as_.flatMap A.cells)]

set_option maxRecDepth 100000 in
set_option maxHeartbeats 3200000 in
theorem play_any (Ad : Option Addr) (n c : Nat) (ops : List O) (as_ : List A) (lf : S) (w : World) (hr : Rd w w.heap.size 3 Ad n (ops.flatMap O.cells)) (hl : ops.length = n) (hn : n * 32 ≤ 140737488351232) (hp : Plays [] ops as_ lf)
    (hwf : ∀ o ∈ ops, (Lit.int .i64 o.id).wf = true) :
    Calls Try.prog 19 #[.slice Ad n c] w (PlayRet w n as_ lf) := by
  obtain ⟨ti, hti, t0, t1, t2⟩ := info_parts ans_info
  have hmm := @run_makeMap Try.prog
  have HR := Lib.hid hr
  have HL := Lib.hid hl
  have HW := Lib.hid hwf
  have HF : Hid (∃ es', Plays [] (ops.drop 0) es' lf ∧ as_ = [] ++ es') := Lib.hid ⟨as_, hp, rfl⟩
  have S1 : Hid (Sep w (((w.alloc (.map #[] 0)).alloc (.map #[] 0)).alloc (.cells #[.map (some w.heap.size), .map (some (w.heap.size + 1))] 82)) (stC (w.heap.size + 2) w.heap.size (w.heap.size + 1) :: om w.heap.size (live []) mno :: nm (w.heap.size + 1) (live []) mno :: ([.row 49 3 (.slice none 0 0) 0 (([] : List A).flatMap A.cells)] ++ (objs [] [] ++ [])))) := Lib.hid (by
    have h1 := ((Sep.nil_ w).newMap Try.prog 3 (Value.int .i64) oenc).newMap Try.prog 9 Value.string ienc
    have h2 := (h1.new 82 [.map (some w.heap.size), .map (some (w.heap.size + 1))]).nilRow 49 3 none
    have e1 : (w.alloc (.map #[] 0)).heap.size = w.heap.size + 1 := by simp
    have e2 : ((w.alloc (.map #[] 0)).alloc (.map #[] 0)).heap.size = w.heap.size + 2 := by simp
    rw [e1, e2] at h2
    exact h2.pick [2, 0, 1, 3] (by decide) (by simp))
  have HRel0 : Hid (Rel [] [] mno mno) := Lib.hid ⟨rfl, by simp [mno], by simp [mno]⟩
  have hS1 : Hid (St w (((w.alloc (.map #[] 0)).alloc (.map #[] 0)).alloc (.cells #[.map (some w.heap.size), .map (some (w.heap.size + 1))] 82)) (w.heap.size + 2) w.heap.size (w.heap.size + 1) [.row 49 3 (.slice none 0 0) 0 (([] : List A).flatMap A.cells)] []) := Lib.hid ⟨_, _, _, _, HRel0.out, S1.out⟩
  clear hr hl hp hwf S1 HRel0
  go_enter Try.func19, Try.ntmps19
  go_wp2
  clear hmm
  generalize ((w.alloc (.map #[] 0)).alloc (.map #[] 0)).alloc (.cells #[.map (some w.heap.size), .map (some (w.heap.size + 1))] 82) = w1 at hS1 ⊢
  obtain ⟨g2, HG2⟩ : ∃ g, Hid (g = w.heap.size + 1) := ⟨_, Lib.hid rfl⟩
  obtain ⟨gs, HGS⟩ : ∃ g, Hid (g = w.heap.size + 2) := ⟨_, Lib.hid rfl⟩
  rw [← HGS.out, ← HG2.out] at hS1
  rw [← HGS.out]
  obtain ⟨g1, HG1⟩ : ∃ g, Hid (g = w.heap.size) := ⟨_, Lib.hid rfl⟩
  rw [← HG1.out] at hS1
  clear HGS HG2 HG1
  go_loopg [5, 14] n (fun q v5 i wr => ∃ (k : Nat) (A5 : Option Addr) (c5 : Nat) (l : S) (es : List A), k ≤ n ∧ q = n - k ∧ i = .int .i64 (k : Int) ∧ v5 = .slice A5 k c5 ∧ Hid (es.length = k) ∧ Hid (Ok l) ∧ Hid (Sz l) ∧ Hid (Bd l k) ∧
    Hid (∃ es', Plays l (ops.drop k) es' lf ∧ as_ = es ++ es') ∧ St w wr gs g1 g2 [.row 49 3 (.slice A5 k c5) k (es.flatMap A.cells)] l)
  case atStart => exact ⟨0, none, 0, [], [], Nat.zero_le _, rfl, rfl, rfl, Lib.hid rfl, Lib.hid (by intro i j d r r' h; simp at h), Lib.hid (by intro i d r h; simp at h), Lib.hid ⟨Nat.le_refl _, by simp⟩, HF, hS1.out⟩
  case round =>
    clear HF hS1
    obtain ⟨k, A5, c5, l, es, hk, rfl, rfl, rfl, HEL, HOK, HSZ, HBD, HF, hs⟩ := hrel
    have HS := Lib.hid hs
    clear hs
    by_cases hlt : k < n
    · obtain ⟨b, off, rfl, hb, hc⟩ := HR.out.at_ O.len (by omega)
      obtain ⟨o, ho⟩ : ∃ o, ops[k]? = some o := ⟨_, List.getElem?_eq_getElem (by rw [HL.out]; exact hlt)⟩
      have hbel : Below w.heap.size w wr := by obtain ⟨bl, h, m, J, R, H⟩ := HS.out; exact H.below
      have q0 : wr.cell? ⟨b, off + k * 3, none⟩ = some (.int .i64 o.kind) := (hbel.cell hb).trans (hc k 0 o _ ho rfl)
      have q1 : wr.cell? ⟨b, off + k * 3 + 1, none⟩ = some (.int .i64 o.id) := (hbel.cell hb).trans (hc k 1 o _ ho rfl)
      have q2 : wr.cell? ⟨b, off + k * 3 + 2, none⟩ = some (.string o.data) := (hbel.cell hb).trans (hc k 2 o _ ho rfl)
      have i0 : (0 : Int) ≤ (k : Int) := by omega
      have i1 : (k : Int) < (n : Int) := by omega
      have HWF : Hid ((Lit.int .i64 o.id).wf = true) := Lib.hid (HW.out o (List.mem_of_getElem? ho))
      obtain ⟨a, l1, es1, HWAY, HP2, HAS⟩ : ∃ a l1 es1, Hid (Way l o a l1) ∧ Hid (Plays l1 (ops.drop (k + 1)) es1 lf) ∧ Hid (as_ = (es ++ [a]) ++ es1) := by
        obtain ⟨es', h1, h2⟩ := HF.out
        rw [drop_at ho] at h1
        cases h1 with
        | cons hw hp => exact ⟨_, _, _, Lib.hid hw, Lib.hid hp, Lib.hid (by rw [h2]; simp)⟩
      have HEL2 : Hid ((es ++ [a]).length = k + 1) := Lib.hid (by rw [List.length_append, HEL.out]; rfl)
      have hbk : k + 3 < 140737488355328 := by omega
      clear hc ho HF hbel
      go_upto_region 6 with (fail)
      have HS2 : Hid (St w (wr.alloc (.cells #[.int .i64 o.kind, .int .i64 o.id, .string o.data] 84)) gs g1 g2 [.row 49 3 (.slice A5 k c5) k (es.flatMap A.cells)] l ∧ Blk (wr.alloc (.cells #[.int .i64 o.kind, .int .i64 o.id, .string o.data] 84)) wr.heap.size 84 o.cells) := Lib.hid ⟨by
          obtain ⟨bl, h, m, J, R, H⟩ := HS.out
          exact ⟨bl, h, m, J, R, H.alloc _⟩, Blk.new wr _ _⟩
      clear HS q0 q1 q2
      generalize wr.alloc (.cells #[.int .i64 o.kind, .int .i64 o.id, .string o.data] 84) = wo at HS2 ⊢
      generalize wr.heap.size = gx at HS2 ⊢
      have p0 := HS2.out.2.cell (k := 0) rfl
      have p1 := HS2.out.2.cell (k := 1) rfl
      have p2 := HS2.out.2.cell (k := 2) rfl
      have cD := Lib.hid (do_any gs g1 g2 k [.row 49 3 (.slice A5 k c5) k (es.flatMap A.cells)] l l1 o a w wo HS2.out.1 HWF.out HWAY.out HOK.out HBD.out hbk HSZ.out)
      unfold O.val at cD
      go_wp2_with fail
      refine cD.out.mono ?_; rintro en w1 ⟨rfl, bl, h, m, J, R, H⟩
      have HRL := Lib.hid R
      have HH := Lib.hid H
      have hnew := Lib.hid (Rd.of_own (own_new w1 49 #[.int .i64 a.err, .int .i64 a.id, .string a.data] 3 1 rfl (by simp [maxLen]) (Nat.le_refl _)))
      clear R H cD p0 p1 p2 HS2
      unfold A.val
      go_wp2_with (at_builtin; refine wpList_append_sep (HH.out.alloc _) 3 rfl (.tmp 18) (.tmp 22) 44 rfl 49 ti (.agg #[.int .i64 0, .int .i64 0, .string { data := #[] }]) 3 32 Try.underlying44 hti t0 t1 t2 rfl (by omega) _ k _ rfl rfl _ _ 1 1 _ rfl hnew.out (by simp [Value.oneCell']) (by simp only [maxLen]; omega) (by omega) ?_; intro A6 c6 w6 hc6 hs6 H6'; have H6 := Lib.hid H6'; clear H6')
      go_roundg (n - (k + 1))
      case measure => omega
      case rel =>
        refine ⟨k + 1, A6, c6, l1, es ++ [a], by omega, rfl, by go_num, rfl, HEL2, Lib.hid (way_ok HOK.out HWAY.out), Lib.hid (way_sz HSZ.out HWAY.out), Lib.hid (way_bd HBD.out HWAY.out), Lib.hid ⟨es1, HP2.out, HAS.out⟩, bl, h, m, J, HRL.out, ?_⟩
        rw [List.flatMap_append]
        exact H6.out
    · obtain rfl : k = n := by omega
      obtain ⟨es', h1, h2⟩ := HF.out
      rw [List.drop_of_length_le (by rw [HL.out]; omega)] at h1
      cases h1
      rw [List.append_nil] at h2
      subst h2
      obtain ⟨bl, h, m, J, R, H⟩ := HS.out
      have c0 := H.cell 0 rfl (k := 0) rfl
      have hlen := H.mapLen 1 rfl Try.underlying79
      have HH := Lib.hid H
      clear R H HF
      go_wp2
      refine bodyPost_ret (v := .tuple #[.slice A5 k c5, .int .i64 (live lf : Int)]) (by simp [results, Try.results19]) rfl ?_
      exact ⟨A5, c5, rfl, HH.out.pick [3] (by decide) (by simp)⟩
end Dd
end Go.Proofs.Ytmbkonhclniolaa
