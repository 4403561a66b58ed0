/-
  Walk of the reference's SPlay. Conditions: none.
-/
import Derived.Test.YtljdfkejhgaciaaQuotaW3
namespace Go.Proofs.Ytljdfkejhgaciaa
open Go.RowKit Go.Shelf
set_option linter.unusedVariables false
namespace Quota

theorem not5 {x : Int} (h : x < 6) : ¬ 5 < x := by omega
theorem gt5 {x : Int} (h : 6 ≤ x) : 5 < x := by omega

set_option maxRecDepth 100000 in
set_option maxHeartbeats 8000000 in
theorem splay_any (A : Option Addr) (n c : Nat) (ops : List Q) (ES lf : List Int) (w : World) (hr : Rd w w.heap.size 4 A n (ops.flatMap Q.cells)) (hops : ops.length = n) (hn : n * 32 ≤ 140737488351232) (hP : Plays zero12 ops ES lf) (hlf : lf.length = 12) (hes : ES.length = ops.length) :
    Calls Try.prog 27 #[.slice A n c] w (QRet w ES lf) := by
  obtain ⟨i0, hi, hz0, hz1, hz2⟩ := info_parts errno_info
  have HR := Lib.hid hr
  have HP := Lib.hid hops
  have HPL := Lib.hid hP
  have HLF := Lib.hid hlf
  have HES := Lib.hid hes
  have F0 : Hid (Blk ((w.alloc (.cells (zero12.flatMap icell).toArray 58)).alloc (.cells (zero12.flatMap icell).toArray 58)) w.heap.size 58 (zero12.flatMap icell)) := Lib.hid ((Blk.new w _ _).alloc _)
  have F1 : Hid (Blk ((w.alloc (.cells (zero12.flatMap icell).toArray 58)).alloc (.cells (zero12.flatMap icell).toArray 58)) (w.heap.size + 1) 58 (zero12.flatMap icell)) := Lib.hid (by
    have := Blk.new (w.alloc (.cells (zero12.flatMap icell).toArray 58)) 58 (zero12.flatMap icell)
    rwa [show (w.alloc (.cells (zero12.flatMap icell).toArray 58)).heap.size = w.heap.size + 1 by simp] at this)
  have hB0 : Below w.heap.size w ((w.alloc (.cells (zero12.flatMap icell).toArray 58)).alloc (.cells (zero12.flatMap icell).toArray 58)) := ((Below.refl _ _).alloc (Nat.le_refl _) _).alloc (by simp) _
  clear hr hops hP hlf hes
  go_enter Try.func27, Try.ntmps27
  go_wp2
  go_loopg [5, 12] n (fun g v i wr => ∃ (k : Nat) (es l : List Int), k ≤ n ∧ g = n - k ∧ i = .int .i64 k ∧ Hid (∃ rest, Plays l (ops.drop k) rest lf ∧ ES = es ++ rest) ∧ Hid (l.length = 12) ∧ wr.ownsRow (w.heap.size + 2) 23 1 v k (es.flatMap icell) ∧ Blk wr (w.heap.size + 1) 58 (l.flatMap icell) ∧ Blk wr w.heap.size 58 (zero12.flatMap icell) ∧ Below w.heap.size w wr)
  case atStart => exact ⟨0, [], zero12, Nat.zero_le _, rfl, rfl, Lib.hid ⟨ES, HPL.out, rfl⟩, Lib.hid rfl, own_none, F1.out, F0.out, hB0⟩
  case round =>
    obtain ⟨k, es, l, hk, rfl, rfl, HF, HLL, hown, hu, hr, hB⟩ := hrel
    have HO := Lib.hid hown
    have HU := Lib.hid hu
    have HRz := Lib.hid hr
    have hzz := hu.lt
    clear hown hu hr F0 F1 hB0
    by_cases hlt : k < n
    · obtain ⟨b, off, rfl, hb, hc⟩ := HR.out.at_ Q.len (by omega)
      obtain ⟨x, hx⟩ : ∃ x, ops[k]? = some x := ⟨_, List.getElem?_eq_getElem (by rw [HP.out]; exact hlt)⟩
      obtain ⟨c0, c1, c2, c3⟩ : wr.cell? ⟨b, off + k * 4, none⟩ = some (.int .i64 x.kind) ∧ wr.cell? ⟨b, off + k * 4 + 1, none⟩ = some (.int .i64 x.user) ∧ wr.cell? ⟨b, off + k * 4 + 2, none⟩ = some (.int .i64 x.to) ∧ wr.cell? ⟨b, off + k * 4 + 3, none⟩ = some (.int .i64 x.n) :=
        ⟨(hB.cell hb).trans (hc k 0 x _ hx rfl), (hB.cell hb).trans (hc k 1 x _ hx rfl), (hB.cell hb).trans (hc k 2 x _ hx rfl), (hB.cell hb).trans (hc k 3 x _ hx rfl)⟩
      obtain ⟨e, l', hW, HL', HN⟩ : ∃ e l', Way l x e l' ∧ Hid (l'.length = 12) ∧ Hid (∃ rest, Plays l' (ops.drop (k + 1)) rest lf ∧ ES = (es ++ [e]) ++ rest) := by
        obtain ⟨rest, hp, he⟩ := HF.out
        rw [drop_at hx] at hp
        cases hp with
        | cons h1 h2 h3 => exact ⟨_, _, h1, Lib.hid h2, Lib.hid ⟨_, h3, by rw [he]; simp⟩⟩
      clear hc hx HF
      obtain ⟨qk, qu, qt, qn⟩ := x
      simp only at c0 c1 c2 c3
      have HW := Lib.hid hW
      have HW0 := Lib.hid hW
      clear hW
      obtain ⟨mv, hmv⟩ : ∃ mv, (qk == 4) = mv := ⟨_, rfl⟩
      go_upto_block 2 with (fail)
      have HMV := Lib.hid hmv
      clear hmv
      go_cut [8] (fun ev wc => ev = .int .i64 e ∧ wc.ownsRow (w.heap.size + 2) 23 1 u5 k (es.flatMap icell) ∧ Blk wc (w.heap.size + 1) 58 (l'.flatMap icell) ∧ Blk wc w.heap.size 58 (zero12.flatMap icell) ∧ Below w.heap.size w wc)
      case first =>
        have hW := HW.out
        have HG := HU
        have old : ∀ (k : Nat) (x : Int), l[k]? = some x → ∀ z : LaterOf (wr.alloc (.cells #[.int .i64 qk, .int .i64 qu, .int .i64 qt, .int .i64 qn] 76)), z.w.cell? ⟨w.heap.size + 1, k, none⟩ = some (.int .i64 x) := fun k x h z => z.old (HG.out.cell (hcell h))
        have f0 : ∀ z : LaterOf (wr.alloc (.cells #[.int .i64 qk, .int .i64 qu, .int .i64 qt, .int .i64 qn] 76)), z.w.cell? ⟨wr.heap.size, 0, none⟩ = some (.int .i64 qk) := fun z => z.new_ 0 rfl
        have f1 : ∀ z : LaterOf (wr.alloc (.cells #[.int .i64 qk, .int .i64 qu, .int .i64 qt, .int .i64 qn] 76)), z.w.cell? ⟨wr.heap.size, 1, none⟩ = some (.int .i64 qu) := fun z => z.new_ 1 rfl
        have f2 : ∀ z : LaterOf (wr.alloc (.cells #[.int .i64 qk, .int .i64 qu, .int .i64 qt, .int .i64 qn] 76)), z.w.cell? ⟨wr.heap.size, 2, none⟩ = some (.int .i64 qt) := fun z => z.new_ 2 rfl
        have f3 : ∀ z : LaterOf (wr.alloc (.cells #[.int .i64 qk, .int .i64 qu, .int .i64 qt, .int .i64 qn] 76)), z.w.cell? ⟨wr.heap.size, 3, none⟩ = some (.int .i64 qn) := fun z => z.new_ 3 rfl
        have HX0 : Below wr.heap.size wr (wr.alloc (.cells #[.int .i64 qk, .int .i64 qu, .int .i64 qt, .int .i64 qn] 76)) := (Below.refl _ _).alloc (Nat.le_refl _) _
        have HGA := Lib.hid (HG.out.alloc (.cells #[.int .i64 qk, .int .i64 qu, .int .i64 qt, .int .i64 qn] 76))
        have HXB := HX0
        clear HX0 HG HGA HW HW0 c0 c1 c2 c3 HN HL'
        rcases hW with ⟨h⟩ | ⟨h0, h⟩ | ⟨h0, h1, h⟩ | ⟨h0, h1, h2, h⟩ | ⟨h2, h3, h⟩ | ⟨h2, h3, h4, h⟩ | ⟨h0, h1, h2, h3, h⟩ | ⟨h0, h1, h2, h3, h4, h⟩ | ⟨h2, h3, h5, h6, h⟩ | ⟨h2, h3, h5, h6, h4, h⟩ | @⟨a, _, _, lim, ha, h4, h5, hl⟩ | @⟨a, _, _, us, lim, ha, h4, h5, hu, hl, hu0, hu1, hl0, hl1, h, h'⟩ | @⟨a, _, _, us, lim, ha, h4, h5, hu, hl, hu0, hu1, hl0, hl1, h, h'⟩ | @⟨a, _, _, us, ha, h4, h5, hu, hu0, hu1, h⟩ | @⟨a, _, _, us, ha, h4, h5, hu, hu0, hu1, h⟩ | @⟨a, b, _, us, ha, hb, h4, h5, hu, hu0, hu1, h⟩ | @⟨a, b, _, us, us2, lim, ha, hb, h4, h5, hu, hu0, hu1, h, hne, hu', hl, hu0', hu1', hl0, hl1, hf, hf'⟩ | @⟨a, b, _, us, us2, lim, ha, hb, h4, h5, hu, hu0, hu1, h, hne, hne', hu', hl, hu0', hu1', hl0, hl1, hf, hf'⟩ | @⟨a, _, us, ha, h4, h5, hu, hu0, hu1, h⟩
        · as_aux_lemma =>
            try have i0 := castlt0 ha
            try have i1 := castlt1 ha
            try have j0 := castlt0 hb
            try have j1 := castlt1 hb
            try have q1 := wrong_lo h
            try have q2 := wrong_hi h
            try have q3 := wrong_ok h2 h3
            try have q4 := wrong_ok h5 h6
            try have q5 := wrong_ok i0 i1
            try have q6 := wrong_ok j0 j1
            try have q7 := ne4 h1
            try have q8 := bne_of hne
            try have d1 := old _ _ hu
            try have d2 := old _ _ hl
            try have d3 := old _ _ hu'
            try clear hu
            try clear hl
            try clear hu'
            clear old
            try have r1 := not5 i1
            try have r2 := not5 j1
            try have r3 := not5 h3
            try have r4 := not5 h6
            try have r5 := gt5 h
            first | (have hm : mv = false := (by rw [← HMV.out]; first | rfl | assumption); subst hm) | (have hm : mv = true := (by rw [← HMV.out]; rfl); subst hm) | skip
            clear f0 f1 f2 f3
            try clear d1
            try clear d2
            try clear d3
            have HOX := own_below HO.out HXB
            have HUX := HU.out.later HXB
            have HRX := HRz.out.later HXB
            have HBX := hB.trans (HXB.mono hB.size)
            go_wp2
            go_meet
            exact ⟨rfl, HOX, HUX, HRX, HBX⟩
        · as_aux_lemma =>
            try have i0 := castlt0 ha
            try have i1 := castlt1 ha
            try have j0 := castlt0 hb
            try have j1 := castlt1 hb
            try have q1 := wrong_lo h
            try have q2 := wrong_hi h
            try have q3 := wrong_ok h2 h3
            try have q4 := wrong_ok h5 h6
            try have q5 := wrong_ok i0 i1
            try have q6 := wrong_ok j0 j1
            try have q7 := ne4 h1
            try have q8 := bne_of hne
            try have d1 := old _ _ hu
            try have d2 := old _ _ hl
            try have d3 := old _ _ hu'
            try clear hu
            try clear hl
            try clear hu'
            clear old
            try have r1 := not5 i1
            try have r2 := not5 j1
            try have r3 := not5 h3
            try have r4 := not5 h6
            try have r5 := gt5 h
            first | (have hm : mv = false := (by rw [← HMV.out]; first | rfl | assumption); subst hm) | (have hm : mv = true := (by rw [← HMV.out]; rfl); subst hm) | skip
            clear f0 f1 f2 f3
            try clear d1
            try clear d2
            try clear d3
            have HOX := own_below HO.out HXB
            have HUX := HU.out.later HXB
            have HRX := HRz.out.later HXB
            have HBX := hB.trans (HXB.mono hB.size)
            go_wp2
            go_meet
            exact ⟨rfl, HOX, HUX, HRX, HBX⟩
        · as_aux_lemma =>
            try have i0 := castlt0 ha
            try have i1 := castlt1 ha
            try have j0 := castlt0 hb
            try have j1 := castlt1 hb
            try have q1 := wrong_lo h
            try have q2 := wrong_hi h
            try have q3 := wrong_ok h2 h3
            try have q4 := wrong_ok h5 h6
            try have q5 := wrong_ok i0 i1
            try have q6 := wrong_ok j0 j1
            try have q7 := ne4 h1
            try have q8 := bne_of hne
            try have d1 := old _ _ hu
            try have d2 := old _ _ hl
            try have d3 := old _ _ hu'
            try clear hu
            try clear hl
            try clear hu'
            clear old
            try have r1 := not5 i1
            try have r2 := not5 j1
            try have r3 := not5 h3
            try have r4 := not5 h6
            try have r5 := gt5 h
            first | (have hm : mv = false := (by rw [← HMV.out]; first | rfl | assumption); subst hm) | (have hm : mv = true := (by rw [← HMV.out]; rfl); subst hm) | skip
            clear f0 f1 f2 f3
            try clear d1
            try clear d2
            try clear d3
            have HOX := own_below HO.out HXB
            have HUX := HU.out.later HXB
            have HRX := HRz.out.later HXB
            have HBX := hB.trans (HXB.mono hB.size)
            go_wp2
            go_meet
            exact ⟨rfl, HOX, HUX, HRX, HBX⟩
        · as_aux_lemma =>
            try have i0 := castlt0 ha
            try have i1 := castlt1 ha
            try have j0 := castlt0 hb
            try have j1 := castlt1 hb
            try have q1 := wrong_lo h
            try have q2 := wrong_hi h
            try have q3 := wrong_ok h2 h3
            try have q4 := wrong_ok h5 h6
            try have q5 := wrong_ok i0 i1
            try have q6 := wrong_ok j0 j1
            try have q7 := ne4 h1
            try have q8 := bne_of hne
            try have d1 := old _ _ hu
            try have d2 := old _ _ hl
            try have d3 := old _ _ hu'
            try clear hu
            try clear hl
            try clear hu'
            clear old
            try have r1 := not5 i1
            try have r2 := not5 j1
            try have r3 := not5 h3
            try have r4 := not5 h6
            try have r5 := gt5 h
            first | (have hm : mv = false := (by rw [← HMV.out]; first | rfl | assumption); subst hm) | (have hm : mv = true := (by rw [← HMV.out]; rfl); subst hm) | skip
            clear f0 f1 f2 f3
            try clear d1
            try clear d2
            try clear d3
            have HOX := own_below HO.out HXB
            have HUX := HU.out.later HXB
            have HRX := HRz.out.later HXB
            have HBX := hB.trans (HXB.mono hB.size)
            go_wp2
            go_meet
            exact ⟨rfl, HOX, HUX, HRX, HBX⟩
        · as_aux_lemma =>
            try have i0 := castlt0 ha
            try have i1 := castlt1 ha
            try have j0 := castlt0 hb
            try have j1 := castlt1 hb
            try have q1 := wrong_lo h
            try have q2 := wrong_hi h
            try have q3 := wrong_ok h2 h3
            try have q4 := wrong_ok h5 h6
            try have q5 := wrong_ok i0 i1
            try have q6 := wrong_ok j0 j1
            try have q7 := ne4 h1
            try have q8 := bne_of hne
            try have d1 := old _ _ hu
            try have d2 := old _ _ hl
            try have d3 := old _ _ hu'
            try clear hu
            try clear hl
            try clear hu'
            clear old
            try have r1 := not5 i1
            try have r2 := not5 j1
            try have r3 := not5 h3
            try have r4 := not5 h6
            try have r5 := gt5 h
            first | (have hm : mv = false := (by rw [← HMV.out]; first | rfl | assumption); subst hm) | (have hm : mv = true := (by rw [← HMV.out]; rfl); subst hm) | skip
            clear f0 f1 f2 f3
            try clear d1
            try clear d2
            try clear d3
            have HOX := own_below HO.out HXB
            have HUX := HU.out.later HXB
            have HRX := HRz.out.later HXB
            have HBX := hB.trans (HXB.mono hB.size)
            go_wp2
            go_meet
            exact ⟨rfl, HOX, HUX, HRX, HBX⟩
        · as_aux_lemma =>
            try have i0 := castlt0 ha
            try have i1 := castlt1 ha
            try have j0 := castlt0 hb
            try have j1 := castlt1 hb
            try have q1 := wrong_lo h
            try have q2 := wrong_hi h
            try have q3 := wrong_ok h2 h3
            try have q4 := wrong_ok h5 h6
            try have q5 := wrong_ok i0 i1
            try have q6 := wrong_ok j0 j1
            try have q7 := ne4 h1
            try have q8 := bne_of hne
            try have d1 := old _ _ hu
            try have d2 := old _ _ hl
            try have d3 := old _ _ hu'
            try clear hu
            try clear hl
            try clear hu'
            clear old
            try have r1 := not5 i1
            try have r2 := not5 j1
            try have r3 := not5 h3
            try have r4 := not5 h6
            try have r5 := gt5 h
            first | (have hm : mv = false := (by rw [← HMV.out]; first | rfl | assumption); subst hm) | (have hm : mv = true := (by rw [← HMV.out]; rfl); subst hm) | skip
            clear f0 f1 f2 f3
            try clear d1
            try clear d2
            try clear d3
            have HOX := own_below HO.out HXB
            have HUX := HU.out.later HXB
            have HRX := HRz.out.later HXB
            have HBX := hB.trans (HXB.mono hB.size)
            go_wp2
            go_meet
            exact ⟨rfl, HOX, HUX, HRX, HBX⟩
        · as_aux_lemma =>
            try have i0 := castlt0 ha
            try have i1 := castlt1 ha
            try have j0 := castlt0 hb
            try have j1 := castlt1 hb
            try have q1 := wrong_lo h
            try have q2 := wrong_hi h
            try have q3 := wrong_ok h2 h3
            try have q4 := wrong_ok h5 h6
            try have q5 := wrong_ok i0 i1
            try have q6 := wrong_ok j0 j1
            try have q7 := ne4 h1
            try have q8 := bne_of hne
            try have d1 := old _ _ hu
            try have d2 := old _ _ hl
            try have d3 := old _ _ hu'
            try clear hu
            try clear hl
            try clear hu'
            clear old
            try have r1 := not5 i1
            try have r2 := not5 j1
            try have r3 := not5 h3
            try have r4 := not5 h6
            try have r5 := gt5 h
            first | (have hm : mv = false := (by rw [← HMV.out]; first | rfl | assumption); subst hm) | (have hm : mv = true := (by rw [← HMV.out]; rfl); subst hm) | skip
            clear f0 f1 f2 f3
            try clear d1
            try clear d2
            try clear d3
            have HOX := own_below HO.out HXB
            have HUX := HU.out.later HXB
            have HRX := HRz.out.later HXB
            have HBX := hB.trans (HXB.mono hB.size)
            go_wp2
            go_meet
            exact ⟨rfl, HOX, HUX, HRX, HBX⟩
        · as_aux_lemma =>
            try have i0 := castlt0 ha
            try have i1 := castlt1 ha
            try have j0 := castlt0 hb
            try have j1 := castlt1 hb
            try have q1 := wrong_lo h
            try have q2 := wrong_hi h
            try have q3 := wrong_ok h2 h3
            try have q4 := wrong_ok h5 h6
            try have q5 := wrong_ok i0 i1
            try have q6 := wrong_ok j0 j1
            try have q7 := ne4 h1
            try have q8 := bne_of hne
            try have d1 := old _ _ hu
            try have d2 := old _ _ hl
            try have d3 := old _ _ hu'
            try clear hu
            try clear hl
            try clear hu'
            clear old
            try have r1 := not5 i1
            try have r2 := not5 j1
            try have r3 := not5 h3
            try have r4 := not5 h6
            try have r5 := gt5 h
            first | (have hm : mv = false := (by rw [← HMV.out]; first | rfl | assumption); subst hm) | (have hm : mv = true := (by rw [← HMV.out]; rfl); subst hm) | skip
            clear f0 f1 f2 f3
            try clear d1
            try clear d2
            try clear d3
            have HOX := own_below HO.out HXB
            have HUX := HU.out.later HXB
            have HRX := HRz.out.later HXB
            have HBX := hB.trans (HXB.mono hB.size)
            go_wp2
            go_meet
            exact ⟨rfl, HOX, HUX, HRX, HBX⟩
        · as_aux_lemma =>
            try have i0 := castlt0 ha
            try have i1 := castlt1 ha
            try have j0 := castlt0 hb
            try have j1 := castlt1 hb
            try have q1 := wrong_lo h
            try have q2 := wrong_hi h
            try have q3 := wrong_ok h2 h3
            try have q4 := wrong_ok h5 h6
            try have q5 := wrong_ok i0 i1
            try have q6 := wrong_ok j0 j1
            try have q7 := ne4 h1
            try have q8 := bne_of hne
            try have d1 := old _ _ hu
            try have d2 := old _ _ hl
            try have d3 := old _ _ hu'
            try clear hu
            try clear hl
            try clear hu'
            clear old
            try have r1 := not5 i1
            try have r2 := not5 j1
            try have r3 := not5 h3
            try have r4 := not5 h6
            try have r5 := gt5 h
            first | (have hm : mv = false := (by rw [← HMV.out]; first | rfl | assumption); subst hm) | (have hm : mv = true := (by rw [← HMV.out]; rfl); subst hm) | skip
            clear f0 f1 f2 f3
            try clear d1
            try clear d2
            try clear d3
            have HOX := own_below HO.out HXB
            have HUX := HU.out.later HXB
            have HRX := HRz.out.later HXB
            have HBX := hB.trans (HXB.mono hB.size)
            go_wp2
            go_meet
            exact ⟨rfl, HOX, HUX, HRX, HBX⟩
        · as_aux_lemma =>
            try have i0 := castlt0 ha
            try have i1 := castlt1 ha
            try have j0 := castlt0 hb
            try have j1 := castlt1 hb
            try have q1 := wrong_lo h
            try have q2 := wrong_hi h
            try have q3 := wrong_ok h2 h3
            try have q4 := wrong_ok h5 h6
            try have q5 := wrong_ok i0 i1
            try have q6 := wrong_ok j0 j1
            try have q7 := ne4 h1
            try have q8 := bne_of hne
            try have d1 := old _ _ hu
            try have d2 := old _ _ hl
            try have d3 := old _ _ hu'
            try clear hu
            try clear hl
            try clear hu'
            clear old
            try have r1 := not5 i1
            try have r2 := not5 j1
            try have r3 := not5 h3
            try have r4 := not5 h6
            try have r5 := gt5 h
            first | (have hm : mv = false := (by rw [← HMV.out]; first | rfl | assumption); subst hm) | (have hm : mv = true := (by rw [← HMV.out]; rfl); subst hm) | skip
            clear f0 f1 f2 f3
            try clear d1
            try clear d2
            try clear d3
            have HOX := own_below HO.out HXB
            have HUX := HU.out.later HXB
            have HRX := HRz.out.later HXB
            have HBX := hB.trans (HXB.mono hB.size)
            go_wp2
            go_meet
            exact ⟨rfl, HOX, HUX, HRX, HBX⟩
        · as_aux_lemma =>
            have E1 := Lib.hid hl
            try have i0 := castlt0 ha
            try have i1 := castlt1 ha
            try have j0 := castlt0 hb
            try have j1 := castlt1 hb
            try have q1 := wrong_lo h
            try have q2 := wrong_hi h
            try have q3 := wrong_ok h2 h3
            try have q4 := wrong_ok h5 h6
            try have q5 := wrong_ok i0 i1
            try have q6 := wrong_ok j0 j1
            try have q7 := ne4 h1
            try have q8 := bne_of hne
            try have d1 := old _ _ hu
            try have d2 := old _ _ hl
            try have d3 := old _ _ hu'
            try clear hu
            try clear hl
            try clear hu'
            clear old
            try have r1 := not5 i1
            try have r2 := not5 j1
            try have r3 := not5 h3
            try have r4 := not5 h6
            try have r5 := gt5 h
            first | (have hm : mv = false := (by rw [← HMV.out]; first | rfl | assumption); subst hm) | (have hm : mv = true := (by rw [← HMV.out]; rfl); subst hm) | skip
            go_wp2
            (refine wp_region_tail 6 (by kernel_rfl) (by kernel_rfl) ?_; simp only [List.take_succ_cons, List.take_zero, List.drop_succ_cons, List.drop_zero]; repeat (go_big_quiet_step (fail)))
            refine wpQuiet_nil ?_; intro xw hw'; obtain ⟨xq, hw''⟩ := hw'; obtain ⟨xw0, xh⟩ := xq; change xw = xw0 at hw''; subst hw''
            have HXB' := HXB.trans (xh.mono HXB.size); clear HXB; have HXB := HXB'; clear HXB'
            have HB := Lib.hid (HU.out.later HXB)
            have u0 := HB.out.froz (k := a * 2)
            have u1 := HB.out.cell (hcell E1.out)
            have HOX := own_set (own_below HO.out HXB) (show w.heap.size + 1 < w.heap.size + 2 by omega) (a * 2) (.int .i64 (qn))
            have HUX := set_blk (k := a * 2) (HU.out.later HXB) (qn)
            have HRX := (HRz.out.later HXB).other (g' := w.heap.size + 1) (k := a * 2) (by omega) (.int .i64 (qn))
            have HBX := (hB.trans (HXB.mono hB.size)).setCell (p := ⟨w.heap.size + 1, a * 2, none⟩) (by simp) (.int .i64 (qn))
            clear HB
            go_wp2
            go_meet
            exact ⟨rfl, HOX, HUX, HRX, HBX⟩
        · as_aux_lemma =>
            try have i0 := castlt0 ha
            try have i1 := castlt1 ha
            try have j0 := castlt0 hb
            try have j1 := castlt1 hb
            try have q1 := wrong_lo h
            try have q2 := wrong_hi h
            try have q3 := wrong_ok h2 h3
            try have q4 := wrong_ok h5 h6
            try have q5 := wrong_ok i0 i1
            try have q6 := wrong_ok j0 j1
            try have q7 := ne4 h1
            try have q8 := bne_of hne
            try have d1 := old _ _ hu
            try have d2 := old _ _ hl
            try have d3 := old _ _ hu'
            try clear hu
            try clear hl
            try clear hu'
            clear old
            try have r1 := not5 i1
            try have r2 := not5 j1
            try have r3 := not5 h3
            try have r4 := not5 h6
            try have r5 := gt5 h
            first | (have hm : mv = false := (by rw [← HMV.out]; first | rfl | assumption); subst hm) | (have hm : mv = true := (by rw [← HMV.out]; rfl); subst hm) | skip
            go_wp2
            try (refine wp_region_later (by kernel_rfl) (by kernel_rfl) ?_; (repeat (go_big_quiet_step (fail))); refine wpQuiet_nil ?_; intro xw hw'; obtain ⟨xq, hw''⟩ := hw'; obtain ⟨xw0, xh⟩ := xq; change xw = xw0 at hw''; subst hw''; (have f0' := fun (z : LaterOf xw) => (f0 ⟨z.w, xh.trans (z.h.mono xh.size)⟩ : z.w.cell? _ = _); clear f0; have f0 := f0'; clear f0'; have f1' := fun (z : LaterOf xw) => (f1 ⟨z.w, xh.trans (z.h.mono xh.size)⟩ : z.w.cell? _ = _); clear f1; have f1 := f1'; clear f1'; have f2' := fun (z : LaterOf xw) => (f2 ⟨z.w, xh.trans (z.h.mono xh.size)⟩ : z.w.cell? _ = _); clear f2; have f2 := f2'; clear f2'; have f3' := fun (z : LaterOf xw) => (f3 ⟨z.w, xh.trans (z.h.mono xh.size)⟩ : z.w.cell? _ = _); clear f3; have f3 := f3'; clear f3'; (try (have d1' := fun (z : LaterOf xw) => (d1 ⟨z.w, xh.trans (z.h.mono xh.size)⟩ : z.w.cell? _ = _); clear d1; have d1 := d1'; clear d1')); (try (have d2' := fun (z : LaterOf xw) => (d2 ⟨z.w, xh.trans (z.h.mono xh.size)⟩ : z.w.cell? _ = _); clear d2; have d2 := d2'; clear d2')); (try (have d3' := fun (z : LaterOf xw) => (d3 ⟨z.w, xh.trans (z.h.mono xh.size)⟩ : z.w.cell? _ = _); clear d3; have d3 := d3'; clear d3')); have HXB' := HXB.trans (xh.mono HXB.size); clear HXB; have HXB := HXB'; clear HXB'); (try clear p0); have p0 := (f0 ⟨xw, Below.refl _ _⟩ : xw.cell? _ = _); go_wp2)
            have HOX := own_below HO.out HXB
            have HUX := HU.out.later HXB
            have HRX := HRz.out.later HXB
            have HBX := hB.trans (HXB.mono hB.size)
            go_meet
            exact ⟨rfl, HOX, HUX, HRX, HBX⟩
        · as_aux_lemma =>
            have E1 := Lib.hid hu
            try have i0 := castlt0 ha
            try have i1 := castlt1 ha
            try have j0 := castlt0 hb
            try have j1 := castlt1 hb
            try have q1 := wrong_lo h
            try have q2 := wrong_hi h
            try have q3 := wrong_ok h2 h3
            try have q4 := wrong_ok h5 h6
            try have q5 := wrong_ok i0 i1
            try have q6 := wrong_ok j0 j1
            try have q7 := ne4 h1
            try have q8 := bne_of hne
            try have d1 := old _ _ hu
            try have d2 := old _ _ hl
            try have d3 := old _ _ hu'
            try clear hu
            try clear hl
            try clear hu'
            clear old
            try have r1 := not5 i1
            try have r2 := not5 j1
            try have r3 := not5 h3
            try have r4 := not5 h6
            try have r5 := gt5 h
            first | (have hm : mv = false := (by rw [← HMV.out]; first | rfl | assumption); subst hm) | (have hm : mv = true := (by rw [← HMV.out]; rfl); subst hm) | skip
            go_wp2
            try (refine wp_region_later (by kernel_rfl) (by kernel_rfl) ?_; (repeat (go_big_quiet_step (fail))); refine wpQuiet_nil ?_; intro xw hw'; obtain ⟨xq, hw''⟩ := hw'; obtain ⟨xw0, xh⟩ := xq; change xw = xw0 at hw''; subst hw''; (have f0' := fun (z : LaterOf xw) => (f0 ⟨z.w, xh.trans (z.h.mono xh.size)⟩ : z.w.cell? _ = _); clear f0; have f0 := f0'; clear f0'; have f1' := fun (z : LaterOf xw) => (f1 ⟨z.w, xh.trans (z.h.mono xh.size)⟩ : z.w.cell? _ = _); clear f1; have f1 := f1'; clear f1'; have f2' := fun (z : LaterOf xw) => (f2 ⟨z.w, xh.trans (z.h.mono xh.size)⟩ : z.w.cell? _ = _); clear f2; have f2 := f2'; clear f2'; have f3' := fun (z : LaterOf xw) => (f3 ⟨z.w, xh.trans (z.h.mono xh.size)⟩ : z.w.cell? _ = _); clear f3; have f3 := f3'; clear f3'; (try (have d1' := fun (z : LaterOf xw) => (d1 ⟨z.w, xh.trans (z.h.mono xh.size)⟩ : z.w.cell? _ = _); clear d1; have d1 := d1'; clear d1')); (try (have d2' := fun (z : LaterOf xw) => (d2 ⟨z.w, xh.trans (z.h.mono xh.size)⟩ : z.w.cell? _ = _); clear d2; have d2 := d2'; clear d2')); (try (have d3' := fun (z : LaterOf xw) => (d3 ⟨z.w, xh.trans (z.h.mono xh.size)⟩ : z.w.cell? _ = _); clear d3; have d3 := d3'; clear d3')); have HXB' := HXB.trans (xh.mono HXB.size); clear HXB; have HXB := HXB'; clear HXB'); (try clear p0); have p0 := (f0 ⟨xw, Below.refl _ _⟩ : xw.cell? _ = _); go_wp2)
            (refine wp_region_tail 10 (by kernel_rfl) (by kernel_rfl) ?_; simp only [List.take_succ_cons, List.take_zero, List.drop_succ_cons, List.drop_zero]; repeat (go_big_quiet_step (fail)))
            refine wpQuiet_nil ?_; intro xw hw'; obtain ⟨xq, hw''⟩ := hw'; obtain ⟨xw0, xh⟩ := xq; change xw = xw0 at hw''; subst hw''
            have HXB' := HXB.trans (xh.mono HXB.size); clear HXB; have HXB := HXB'; clear HXB'
            have HB := Lib.hid (HU.out.later HXB)
            have u0 := HB.out.froz (k := a * 2 + 1)
            have u1 := HB.out.cell (hcell E1.out)
            have HOX := own_set (own_below HO.out HXB) (show w.heap.size + 1 < w.heap.size + 2 by omega) (a * 2 + 1) (.int .i64 (us + qn))
            have HUX := set_blk (k := a * 2 + 1) (HU.out.later HXB) (us + qn)
            have HRX := (HRz.out.later HXB).other (g' := w.heap.size + 1) (k := a * 2 + 1) (by omega) (.int .i64 (us + qn))
            have HBX := (hB.trans (HXB.mono hB.size)).setCell (p := ⟨w.heap.size + 1, a * 2 + 1, none⟩) (by simp) (.int .i64 (us + qn))
            clear HB
            go_wp2
            go_meet
            exact ⟨rfl, HOX, HUX, HRX, HBX⟩
        · as_aux_lemma =>
            try have i0 := castlt0 ha
            try have i1 := castlt1 ha
            try have j0 := castlt0 hb
            try have j1 := castlt1 hb
            try have q1 := wrong_lo h
            try have q2 := wrong_hi h
            try have q3 := wrong_ok h2 h3
            try have q4 := wrong_ok h5 h6
            try have q5 := wrong_ok i0 i1
            try have q6 := wrong_ok j0 j1
            try have q7 := ne4 h1
            try have q8 := bne_of hne
            try have d1 := old _ _ hu
            try have d2 := old _ _ hl
            try have d3 := old _ _ hu'
            try clear hu
            try clear hl
            try clear hu'
            clear old
            try have r1 := not5 i1
            try have r2 := not5 j1
            try have r3 := not5 h3
            try have r4 := not5 h6
            try have r5 := gt5 h
            first | (have hm : mv = false := (by rw [← HMV.out]; first | rfl | assumption); subst hm) | (have hm : mv = true := (by rw [← HMV.out]; rfl); subst hm) | skip
            go_wp2
            try (refine wp_region_later (by kernel_rfl) (by kernel_rfl) ?_; (repeat (go_big_quiet_step (fail))); refine wpQuiet_nil ?_; intro xw hw'; obtain ⟨xq, hw''⟩ := hw'; obtain ⟨xw0, xh⟩ := xq; change xw = xw0 at hw''; subst hw''; (have f0' := fun (z : LaterOf xw) => (f0 ⟨z.w, xh.trans (z.h.mono xh.size)⟩ : z.w.cell? _ = _); clear f0; have f0 := f0'; clear f0'; have f1' := fun (z : LaterOf xw) => (f1 ⟨z.w, xh.trans (z.h.mono xh.size)⟩ : z.w.cell? _ = _); clear f1; have f1 := f1'; clear f1'; have f2' := fun (z : LaterOf xw) => (f2 ⟨z.w, xh.trans (z.h.mono xh.size)⟩ : z.w.cell? _ = _); clear f2; have f2 := f2'; clear f2'; have f3' := fun (z : LaterOf xw) => (f3 ⟨z.w, xh.trans (z.h.mono xh.size)⟩ : z.w.cell? _ = _); clear f3; have f3 := f3'; clear f3'; (try (have d1' := fun (z : LaterOf xw) => (d1 ⟨z.w, xh.trans (z.h.mono xh.size)⟩ : z.w.cell? _ = _); clear d1; have d1 := d1'; clear d1')); (try (have d2' := fun (z : LaterOf xw) => (d2 ⟨z.w, xh.trans (z.h.mono xh.size)⟩ : z.w.cell? _ = _); clear d2; have d2 := d2'; clear d2')); (try (have d3' := fun (z : LaterOf xw) => (d3 ⟨z.w, xh.trans (z.h.mono xh.size)⟩ : z.w.cell? _ = _); clear d3; have d3 := d3'; clear d3')); have HXB' := HXB.trans (xh.mono HXB.size); clear HXB; have HXB := HXB'; clear HXB'); (try clear p0); have p0 := (f0 ⟨xw, Below.refl _ _⟩ : xw.cell? _ = _); go_wp2)
            try (refine wp_region_later (by kernel_rfl) (by kernel_rfl) ?_; (repeat (go_big_quiet_step (fail))); refine wpQuiet_nil ?_; intro xw hw'; obtain ⟨xq, hw''⟩ := hw'; obtain ⟨xw0, xh⟩ := xq; change xw = xw0 at hw''; subst hw''; (have f0' := fun (z : LaterOf xw) => (f0 ⟨z.w, xh.trans (z.h.mono xh.size)⟩ : z.w.cell? _ = _); clear f0; have f0 := f0'; clear f0'; have f1' := fun (z : LaterOf xw) => (f1 ⟨z.w, xh.trans (z.h.mono xh.size)⟩ : z.w.cell? _ = _); clear f1; have f1 := f1'; clear f1'; have f2' := fun (z : LaterOf xw) => (f2 ⟨z.w, xh.trans (z.h.mono xh.size)⟩ : z.w.cell? _ = _); clear f2; have f2 := f2'; clear f2'; have f3' := fun (z : LaterOf xw) => (f3 ⟨z.w, xh.trans (z.h.mono xh.size)⟩ : z.w.cell? _ = _); clear f3; have f3 := f3'; clear f3'; (try (have d1' := fun (z : LaterOf xw) => (d1 ⟨z.w, xh.trans (z.h.mono xh.size)⟩ : z.w.cell? _ = _); clear d1; have d1 := d1'; clear d1')); (try (have d2' := fun (z : LaterOf xw) => (d2 ⟨z.w, xh.trans (z.h.mono xh.size)⟩ : z.w.cell? _ = _); clear d2; have d2 := d2'; clear d2')); (try (have d3' := fun (z : LaterOf xw) => (d3 ⟨z.w, xh.trans (z.h.mono xh.size)⟩ : z.w.cell? _ = _); clear d3; have d3 := d3'; clear d3')); have HXB' := HXB.trans (xh.mono HXB.size); clear HXB; have HXB := HXB'; clear HXB'); (try clear p0); have p0 := (f0 ⟨xw, Below.refl _ _⟩ : xw.cell? _ = _); go_wp2)
            have HOX := own_below HO.out HXB
            have HUX := HU.out.later HXB
            have HRX := HRz.out.later HXB
            have HBX := hB.trans (HXB.mono hB.size)
            go_meet
            exact ⟨rfl, HOX, HUX, HRX, HBX⟩
        · as_aux_lemma =>
            have E1 := Lib.hid hu
            try have i0 := castlt0 ha
            try have i1 := castlt1 ha
            try have j0 := castlt0 hb
            try have j1 := castlt1 hb
            try have q1 := wrong_lo h
            try have q2 := wrong_hi h
            try have q3 := wrong_ok h2 h3
            try have q4 := wrong_ok h5 h6
            try have q5 := wrong_ok i0 i1
            try have q6 := wrong_ok j0 j1
            try have q7 := ne4 h1
            try have q8 := bne_of hne
            try have d1 := old _ _ hu
            try have d2 := old _ _ hl
            try have d3 := old _ _ hu'
            try clear hu
            try clear hl
            try clear hu'
            clear old
            try have r1 := not5 i1
            try have r2 := not5 j1
            try have r3 := not5 h3
            try have r4 := not5 h6
            try have r5 := gt5 h
            first | (have hm : mv = false := (by rw [← HMV.out]; first | rfl | assumption); subst hm) | (have hm : mv = true := (by rw [← HMV.out]; rfl); subst hm) | skip
            go_wp2
            try (refine wp_region_later (by kernel_rfl) (by kernel_rfl) ?_; (repeat (go_big_quiet_step (fail))); refine wpQuiet_nil ?_; intro xw hw'; obtain ⟨xq, hw''⟩ := hw'; obtain ⟨xw0, xh⟩ := xq; change xw = xw0 at hw''; subst hw''; (have f0' := fun (z : LaterOf xw) => (f0 ⟨z.w, xh.trans (z.h.mono xh.size)⟩ : z.w.cell? _ = _); clear f0; have f0 := f0'; clear f0'; have f1' := fun (z : LaterOf xw) => (f1 ⟨z.w, xh.trans (z.h.mono xh.size)⟩ : z.w.cell? _ = _); clear f1; have f1 := f1'; clear f1'; have f2' := fun (z : LaterOf xw) => (f2 ⟨z.w, xh.trans (z.h.mono xh.size)⟩ : z.w.cell? _ = _); clear f2; have f2 := f2'; clear f2'; have f3' := fun (z : LaterOf xw) => (f3 ⟨z.w, xh.trans (z.h.mono xh.size)⟩ : z.w.cell? _ = _); clear f3; have f3 := f3'; clear f3'; (try (have d1' := fun (z : LaterOf xw) => (d1 ⟨z.w, xh.trans (z.h.mono xh.size)⟩ : z.w.cell? _ = _); clear d1; have d1 := d1'; clear d1')); (try (have d2' := fun (z : LaterOf xw) => (d2 ⟨z.w, xh.trans (z.h.mono xh.size)⟩ : z.w.cell? _ = _); clear d2; have d2 := d2'; clear d2')); (try (have d3' := fun (z : LaterOf xw) => (d3 ⟨z.w, xh.trans (z.h.mono xh.size)⟩ : z.w.cell? _ = _); clear d3; have d3 := d3'; clear d3')); have HXB' := HXB.trans (xh.mono HXB.size); clear HXB; have HXB := HXB'; clear HXB'); (try clear p0); have p0 := (f0 ⟨xw, Below.refl _ _⟩ : xw.cell? _ = _); go_wp2)
            try (refine wp_region_later (by kernel_rfl) (by kernel_rfl) ?_; (repeat (go_big_quiet_step (fail))); refine wpQuiet_nil ?_; intro xw hw'; obtain ⟨xq, hw''⟩ := hw'; obtain ⟨xw0, xh⟩ := xq; change xw = xw0 at hw''; subst hw''; (have f0' := fun (z : LaterOf xw) => (f0 ⟨z.w, xh.trans (z.h.mono xh.size)⟩ : z.w.cell? _ = _); clear f0; have f0 := f0'; clear f0'; have f1' := fun (z : LaterOf xw) => (f1 ⟨z.w, xh.trans (z.h.mono xh.size)⟩ : z.w.cell? _ = _); clear f1; have f1 := f1'; clear f1'; have f2' := fun (z : LaterOf xw) => (f2 ⟨z.w, xh.trans (z.h.mono xh.size)⟩ : z.w.cell? _ = _); clear f2; have f2 := f2'; clear f2'; have f3' := fun (z : LaterOf xw) => (f3 ⟨z.w, xh.trans (z.h.mono xh.size)⟩ : z.w.cell? _ = _); clear f3; have f3 := f3'; clear f3'; (try (have d1' := fun (z : LaterOf xw) => (d1 ⟨z.w, xh.trans (z.h.mono xh.size)⟩ : z.w.cell? _ = _); clear d1; have d1 := d1'; clear d1')); (try (have d2' := fun (z : LaterOf xw) => (d2 ⟨z.w, xh.trans (z.h.mono xh.size)⟩ : z.w.cell? _ = _); clear d2; have d2 := d2'; clear d2')); (try (have d3' := fun (z : LaterOf xw) => (d3 ⟨z.w, xh.trans (z.h.mono xh.size)⟩ : z.w.cell? _ = _); clear d3; have d3 := d3'; clear d3')); have HXB' := HXB.trans (xh.mono HXB.size); clear HXB; have HXB := HXB'; clear HXB'); (try clear p0); have p0 := (f0 ⟨xw, Below.refl _ _⟩ : xw.cell? _ = _); go_wp2)
            try (refine wp_region_later (by kernel_rfl) (by kernel_rfl) ?_; (repeat (go_big_quiet_step (fail))); refine wpQuiet_nil ?_; intro xw hw'; obtain ⟨xq, hw''⟩ := hw'; obtain ⟨xw0, xh⟩ := xq; change xw = xw0 at hw''; subst hw''; (have f0' := fun (z : LaterOf xw) => (f0 ⟨z.w, xh.trans (z.h.mono xh.size)⟩ : z.w.cell? _ = _); clear f0; have f0 := f0'; clear f0'; have f1' := fun (z : LaterOf xw) => (f1 ⟨z.w, xh.trans (z.h.mono xh.size)⟩ : z.w.cell? _ = _); clear f1; have f1 := f1'; clear f1'; have f2' := fun (z : LaterOf xw) => (f2 ⟨z.w, xh.trans (z.h.mono xh.size)⟩ : z.w.cell? _ = _); clear f2; have f2 := f2'; clear f2'; have f3' := fun (z : LaterOf xw) => (f3 ⟨z.w, xh.trans (z.h.mono xh.size)⟩ : z.w.cell? _ = _); clear f3; have f3 := f3'; clear f3'; (try (have d1' := fun (z : LaterOf xw) => (d1 ⟨z.w, xh.trans (z.h.mono xh.size)⟩ : z.w.cell? _ = _); clear d1; have d1 := d1'; clear d1')); (try (have d2' := fun (z : LaterOf xw) => (d2 ⟨z.w, xh.trans (z.h.mono xh.size)⟩ : z.w.cell? _ = _); clear d2; have d2 := d2'; clear d2')); (try (have d3' := fun (z : LaterOf xw) => (d3 ⟨z.w, xh.trans (z.h.mono xh.size)⟩ : z.w.cell? _ = _); clear d3; have d3 := d3'; clear d3')); have HXB' := HXB.trans (xh.mono HXB.size); clear HXB; have HXB := HXB'; clear HXB'); (try clear p0); have p0 := (f0 ⟨xw, Below.refl _ _⟩ : xw.cell? _ = _); go_wp2)
            (refine wp_region_tail 10 (by kernel_rfl) (by kernel_rfl) ?_; simp only [List.take_succ_cons, List.take_zero, List.drop_succ_cons, List.drop_zero]; repeat (go_big_quiet_step (fail)))
            refine wpQuiet_nil ?_; intro xw hw'; obtain ⟨xq, hw''⟩ := hw'; obtain ⟨xw0, xh⟩ := xq; change xw = xw0 at hw''; subst hw''
            have HXB' := HXB.trans (xh.mono HXB.size); clear HXB; have HXB := HXB'; clear HXB'
            have HB := Lib.hid (HU.out.later HXB)
            have u0 := HB.out.froz (k := a * 2 + 1)
            have u1 := HB.out.cell (hcell E1.out)
            have HOX := own_set (own_below HO.out HXB) (show w.heap.size + 1 < w.heap.size + 2 by omega) (a * 2 + 1) (.int .i64 (us - qn))
            have HUX := set_blk (k := a * 2 + 1) (HU.out.later HXB) (us - qn)
            have HRX := (HRz.out.later HXB).other (g' := w.heap.size + 1) (k := a * 2 + 1) (by omega) (.int .i64 (us - qn))
            have HBX := (hB.trans (HXB.mono hB.size)).setCell (p := ⟨w.heap.size + 1, a * 2 + 1, none⟩) (by simp) (.int .i64 (us - qn))
            clear HB
            go_wp2
            go_meet
            exact ⟨rfl, HOX, HUX, HRX, HBX⟩
        · as_aux_lemma =>
            try have i0 := castlt0 ha
            try have i1 := castlt1 ha
            try have j0 := castlt0 hb
            try have j1 := castlt1 hb
            try have q1 := wrong_lo h
            try have q2 := wrong_hi h
            try have q3 := wrong_ok h2 h3
            try have q4 := wrong_ok h5 h6
            try have q5 := wrong_ok i0 i1
            try have q6 := wrong_ok j0 j1
            try have q7 := ne4 h1
            try have q8 := bne_of hne
            try have d1 := old _ _ hu
            try have d2 := old _ _ hl
            try have d3 := old _ _ hu'
            try clear hu
            try clear hl
            try clear hu'
            clear old
            try have r1 := not5 i1
            try have r2 := not5 j1
            try have r3 := not5 h3
            try have r4 := not5 h6
            try have r5 := gt5 h
            first | (have hm : mv = false := (by rw [← HMV.out]; first | rfl | assumption); subst hm) | (have hm : mv = true := (by rw [← HMV.out]; rfl); subst hm) | skip
            go_wp2
            try (refine wp_region_later (by kernel_rfl) (by kernel_rfl) ?_; (repeat (go_big_quiet_step (fail))); refine wpQuiet_nil ?_; intro xw hw'; obtain ⟨xq, hw''⟩ := hw'; obtain ⟨xw0, xh⟩ := xq; change xw = xw0 at hw''; subst hw''; (have f0' := fun (z : LaterOf xw) => (f0 ⟨z.w, xh.trans (z.h.mono xh.size)⟩ : z.w.cell? _ = _); clear f0; have f0 := f0'; clear f0'; have f1' := fun (z : LaterOf xw) => (f1 ⟨z.w, xh.trans (z.h.mono xh.size)⟩ : z.w.cell? _ = _); clear f1; have f1 := f1'; clear f1'; have f2' := fun (z : LaterOf xw) => (f2 ⟨z.w, xh.trans (z.h.mono xh.size)⟩ : z.w.cell? _ = _); clear f2; have f2 := f2'; clear f2'; have f3' := fun (z : LaterOf xw) => (f3 ⟨z.w, xh.trans (z.h.mono xh.size)⟩ : z.w.cell? _ = _); clear f3; have f3 := f3'; clear f3'; (try (have d1' := fun (z : LaterOf xw) => (d1 ⟨z.w, xh.trans (z.h.mono xh.size)⟩ : z.w.cell? _ = _); clear d1; have d1 := d1'; clear d1')); (try (have d2' := fun (z : LaterOf xw) => (d2 ⟨z.w, xh.trans (z.h.mono xh.size)⟩ : z.w.cell? _ = _); clear d2; have d2 := d2'; clear d2')); (try (have d3' := fun (z : LaterOf xw) => (d3 ⟨z.w, xh.trans (z.h.mono xh.size)⟩ : z.w.cell? _ = _); clear d3; have d3 := d3'; clear d3')); have HXB' := HXB.trans (xh.mono HXB.size); clear HXB; have HXB := HXB'; clear HXB'); (try clear p0); have p0 := (f0 ⟨xw, Below.refl _ _⟩ : xw.cell? _ = _); go_wp2)
            try (refine wp_region_later (by kernel_rfl) (by kernel_rfl) ?_; (repeat (go_big_quiet_step (fail))); refine wpQuiet_nil ?_; intro xw hw'; obtain ⟨xq, hw''⟩ := hw'; obtain ⟨xw0, xh⟩ := xq; change xw = xw0 at hw''; subst hw''; (have f0' := fun (z : LaterOf xw) => (f0 ⟨z.w, xh.trans (z.h.mono xh.size)⟩ : z.w.cell? _ = _); clear f0; have f0 := f0'; clear f0'; have f1' := fun (z : LaterOf xw) => (f1 ⟨z.w, xh.trans (z.h.mono xh.size)⟩ : z.w.cell? _ = _); clear f1; have f1 := f1'; clear f1'; have f2' := fun (z : LaterOf xw) => (f2 ⟨z.w, xh.trans (z.h.mono xh.size)⟩ : z.w.cell? _ = _); clear f2; have f2 := f2'; clear f2'; have f3' := fun (z : LaterOf xw) => (f3 ⟨z.w, xh.trans (z.h.mono xh.size)⟩ : z.w.cell? _ = _); clear f3; have f3 := f3'; clear f3'; (try (have d1' := fun (z : LaterOf xw) => (d1 ⟨z.w, xh.trans (z.h.mono xh.size)⟩ : z.w.cell? _ = _); clear d1; have d1 := d1'; clear d1')); (try (have d2' := fun (z : LaterOf xw) => (d2 ⟨z.w, xh.trans (z.h.mono xh.size)⟩ : z.w.cell? _ = _); clear d2; have d2 := d2'; clear d2')); (try (have d3' := fun (z : LaterOf xw) => (d3 ⟨z.w, xh.trans (z.h.mono xh.size)⟩ : z.w.cell? _ = _); clear d3; have d3 := d3'; clear d3')); have HXB' := HXB.trans (xh.mono HXB.size); clear HXB; have HXB := HXB'; clear HXB'); (try clear p0); have p0 := (f0 ⟨xw, Below.refl _ _⟩ : xw.cell? _ = _); go_wp2)
            have HOX := own_below HO.out HXB
            have HUX := HU.out.later HXB
            have HRX := HRz.out.later HXB
            have HBX := hB.trans (HXB.mono hB.size)
            go_meet
            exact ⟨rfl, HOX, HUX, HRX, HBX⟩
        · as_aux_lemma =>
            try have i0 := castlt0 ha
            try have i1 := castlt1 ha
            try have j0 := castlt0 hb
            try have j1 := castlt1 hb
            try have q1 := wrong_lo h
            try have q2 := wrong_hi h
            try have q3 := wrong_ok h2 h3
            try have q4 := wrong_ok h5 h6
            try have q5 := wrong_ok i0 i1
            try have q6 := wrong_ok j0 j1
            try have q7 := ne4 h1
            try have q8 := bne_of hne
            try have d1 := old _ _ hu
            try have d2 := old _ _ hl
            try have d3 := old _ _ hu'
            try clear hu
            try clear hl
            try clear hu'
            clear old
            try have r1 := not5 i1
            try have r2 := not5 j1
            try have r3 := not5 h3
            try have r4 := not5 h6
            try have r5 := gt5 h
            first | (have hm : mv = false := (by rw [← HMV.out]; first | rfl | assumption); subst hm) | (have hm : mv = true := (by rw [← HMV.out]; rfl); subst hm) | skip
            go_wp2
            try (refine wp_region_later (by kernel_rfl) (by kernel_rfl) ?_; (repeat (go_big_quiet_step (fail))); refine wpQuiet_nil ?_; intro xw hw'; obtain ⟨xq, hw''⟩ := hw'; obtain ⟨xw0, xh⟩ := xq; change xw = xw0 at hw''; subst hw''; (have f0' := fun (z : LaterOf xw) => (f0 ⟨z.w, xh.trans (z.h.mono xh.size)⟩ : z.w.cell? _ = _); clear f0; have f0 := f0'; clear f0'; have f1' := fun (z : LaterOf xw) => (f1 ⟨z.w, xh.trans (z.h.mono xh.size)⟩ : z.w.cell? _ = _); clear f1; have f1 := f1'; clear f1'; have f2' := fun (z : LaterOf xw) => (f2 ⟨z.w, xh.trans (z.h.mono xh.size)⟩ : z.w.cell? _ = _); clear f2; have f2 := f2'; clear f2'; have f3' := fun (z : LaterOf xw) => (f3 ⟨z.w, xh.trans (z.h.mono xh.size)⟩ : z.w.cell? _ = _); clear f3; have f3 := f3'; clear f3'; (try (have d1' := fun (z : LaterOf xw) => (d1 ⟨z.w, xh.trans (z.h.mono xh.size)⟩ : z.w.cell? _ = _); clear d1; have d1 := d1'; clear d1')); (try (have d2' := fun (z : LaterOf xw) => (d2 ⟨z.w, xh.trans (z.h.mono xh.size)⟩ : z.w.cell? _ = _); clear d2; have d2 := d2'; clear d2')); (try (have d3' := fun (z : LaterOf xw) => (d3 ⟨z.w, xh.trans (z.h.mono xh.size)⟩ : z.w.cell? _ = _); clear d3; have d3 := d3'; clear d3')); have HXB' := HXB.trans (xh.mono HXB.size); clear HXB; have HXB := HXB'; clear HXB'); (try clear p0); have p0 := (f0 ⟨xw, Below.refl _ _⟩ : xw.cell? _ = _); go_wp2)
            try (refine wp_region_later (by kernel_rfl) (by kernel_rfl) ?_; (repeat (go_big_quiet_step (fail))); refine wpQuiet_nil ?_; intro xw hw'; obtain ⟨xq, hw''⟩ := hw'; obtain ⟨xw0, xh⟩ := xq; change xw = xw0 at hw''; subst hw''; (have f0' := fun (z : LaterOf xw) => (f0 ⟨z.w, xh.trans (z.h.mono xh.size)⟩ : z.w.cell? _ = _); clear f0; have f0 := f0'; clear f0'; have f1' := fun (z : LaterOf xw) => (f1 ⟨z.w, xh.trans (z.h.mono xh.size)⟩ : z.w.cell? _ = _); clear f1; have f1 := f1'; clear f1'; have f2' := fun (z : LaterOf xw) => (f2 ⟨z.w, xh.trans (z.h.mono xh.size)⟩ : z.w.cell? _ = _); clear f2; have f2 := f2'; clear f2'; have f3' := fun (z : LaterOf xw) => (f3 ⟨z.w, xh.trans (z.h.mono xh.size)⟩ : z.w.cell? _ = _); clear f3; have f3 := f3'; clear f3'; (try (have d1' := fun (z : LaterOf xw) => (d1 ⟨z.w, xh.trans (z.h.mono xh.size)⟩ : z.w.cell? _ = _); clear d1; have d1 := d1'; clear d1')); (try (have d2' := fun (z : LaterOf xw) => (d2 ⟨z.w, xh.trans (z.h.mono xh.size)⟩ : z.w.cell? _ = _); clear d2; have d2 := d2'; clear d2')); (try (have d3' := fun (z : LaterOf xw) => (d3 ⟨z.w, xh.trans (z.h.mono xh.size)⟩ : z.w.cell? _ = _); clear d3; have d3 := d3'; clear d3')); have HXB' := HXB.trans (xh.mono HXB.size); clear HXB; have HXB := HXB'; clear HXB'); (try clear p0); have p0 := (f0 ⟨xw, Below.refl _ _⟩ : xw.cell? _ = _); go_wp2)
            try (refine wp_region_later (by kernel_rfl) (by kernel_rfl) ?_; (repeat (go_big_quiet_step (fail))); refine wpQuiet_nil ?_; intro xw hw'; obtain ⟨xq, hw''⟩ := hw'; obtain ⟨xw0, xh⟩ := xq; change xw = xw0 at hw''; subst hw''; (have f0' := fun (z : LaterOf xw) => (f0 ⟨z.w, xh.trans (z.h.mono xh.size)⟩ : z.w.cell? _ = _); clear f0; have f0 := f0'; clear f0'; have f1' := fun (z : LaterOf xw) => (f1 ⟨z.w, xh.trans (z.h.mono xh.size)⟩ : z.w.cell? _ = _); clear f1; have f1 := f1'; clear f1'; have f2' := fun (z : LaterOf xw) => (f2 ⟨z.w, xh.trans (z.h.mono xh.size)⟩ : z.w.cell? _ = _); clear f2; have f2 := f2'; clear f2'; have f3' := fun (z : LaterOf xw) => (f3 ⟨z.w, xh.trans (z.h.mono xh.size)⟩ : z.w.cell? _ = _); clear f3; have f3 := f3'; clear f3'; (try (have d1' := fun (z : LaterOf xw) => (d1 ⟨z.w, xh.trans (z.h.mono xh.size)⟩ : z.w.cell? _ = _); clear d1; have d1 := d1'; clear d1')); (try (have d2' := fun (z : LaterOf xw) => (d2 ⟨z.w, xh.trans (z.h.mono xh.size)⟩ : z.w.cell? _ = _); clear d2; have d2 := d2'; clear d2')); (try (have d3' := fun (z : LaterOf xw) => (d3 ⟨z.w, xh.trans (z.h.mono xh.size)⟩ : z.w.cell? _ = _); clear d3; have d3 := d3'; clear d3')); have HXB' := HXB.trans (xh.mono HXB.size); clear HXB; have HXB := HXB'; clear HXB'); (try clear p0); have p0 := (f0 ⟨xw, Below.refl _ _⟩ : xw.cell? _ = _); go_wp2)
            have HOX := own_below HO.out HXB
            have HUX := HU.out.later HXB
            have HRX := HRz.out.later HXB
            have HBX := hB.trans (HXB.mono hB.size)
            go_meet
            exact ⟨rfl, HOX, HUX, HRX, HBX⟩
        · as_aux_lemma =>
            have E1 := Lib.hid hu
            have E2 : Hid ((l.set (a * 2 + 1) (us - qn))[b * 2 + 1]? = some us2) := Lib.hid (by rw [List.getElem?_set_ne (by omega)]; exact hu')
            try have i0 := castlt0 ha
            try have i1 := castlt1 ha
            try have j0 := castlt0 hb
            try have j1 := castlt1 hb
            try have q1 := wrong_lo h
            try have q2 := wrong_hi h
            try have q3 := wrong_ok h2 h3
            try have q4 := wrong_ok h5 h6
            try have q5 := wrong_ok i0 i1
            try have q6 := wrong_ok j0 j1
            try have q7 := ne4 h1
            try have q8 := bne_of hne
            try have d1 := old _ _ hu
            try have d2 := old _ _ hl
            try have d3 := old _ _ hu'
            try clear hu
            try clear hl
            try clear hu'
            clear old
            try have r1 := not5 i1
            try have r2 := not5 j1
            try have r3 := not5 h3
            try have r4 := not5 h6
            try have r5 := gt5 h
            first | (have hm : mv = false := (by rw [← HMV.out]; first | rfl | assumption); subst hm) | (have hm : mv = true := (by rw [← HMV.out]; rfl); subst hm) | skip
            go_wp2
            try (refine wp_region_later (by kernel_rfl) (by kernel_rfl) ?_; (repeat (go_big_quiet_step (fail))); refine wpQuiet_nil ?_; intro xw hw'; obtain ⟨xq, hw''⟩ := hw'; obtain ⟨xw0, xh⟩ := xq; change xw = xw0 at hw''; subst hw''; (have f0' := fun (z : LaterOf xw) => (f0 ⟨z.w, xh.trans (z.h.mono xh.size)⟩ : z.w.cell? _ = _); clear f0; have f0 := f0'; clear f0'; have f1' := fun (z : LaterOf xw) => (f1 ⟨z.w, xh.trans (z.h.mono xh.size)⟩ : z.w.cell? _ = _); clear f1; have f1 := f1'; clear f1'; have f2' := fun (z : LaterOf xw) => (f2 ⟨z.w, xh.trans (z.h.mono xh.size)⟩ : z.w.cell? _ = _); clear f2; have f2 := f2'; clear f2'; have f3' := fun (z : LaterOf xw) => (f3 ⟨z.w, xh.trans (z.h.mono xh.size)⟩ : z.w.cell? _ = _); clear f3; have f3 := f3'; clear f3'; (try (have d1' := fun (z : LaterOf xw) => (d1 ⟨z.w, xh.trans (z.h.mono xh.size)⟩ : z.w.cell? _ = _); clear d1; have d1 := d1'; clear d1')); (try (have d2' := fun (z : LaterOf xw) => (d2 ⟨z.w, xh.trans (z.h.mono xh.size)⟩ : z.w.cell? _ = _); clear d2; have d2 := d2'; clear d2')); (try (have d3' := fun (z : LaterOf xw) => (d3 ⟨z.w, xh.trans (z.h.mono xh.size)⟩ : z.w.cell? _ = _); clear d3; have d3 := d3'; clear d3')); have HXB' := HXB.trans (xh.mono HXB.size); clear HXB; have HXB := HXB'; clear HXB'); (try clear p0); have p0 := (f0 ⟨xw, Below.refl _ _⟩ : xw.cell? _ = _); go_wp2)
            try (refine wp_region_later (by kernel_rfl) (by kernel_rfl) ?_; (repeat (go_big_quiet_step (fail))); refine wpQuiet_nil ?_; intro xw hw'; obtain ⟨xq, hw''⟩ := hw'; obtain ⟨xw0, xh⟩ := xq; change xw = xw0 at hw''; subst hw''; (have f0' := fun (z : LaterOf xw) => (f0 ⟨z.w, xh.trans (z.h.mono xh.size)⟩ : z.w.cell? _ = _); clear f0; have f0 := f0'; clear f0'; have f1' := fun (z : LaterOf xw) => (f1 ⟨z.w, xh.trans (z.h.mono xh.size)⟩ : z.w.cell? _ = _); clear f1; have f1 := f1'; clear f1'; have f2' := fun (z : LaterOf xw) => (f2 ⟨z.w, xh.trans (z.h.mono xh.size)⟩ : z.w.cell? _ = _); clear f2; have f2 := f2'; clear f2'; have f3' := fun (z : LaterOf xw) => (f3 ⟨z.w, xh.trans (z.h.mono xh.size)⟩ : z.w.cell? _ = _); clear f3; have f3 := f3'; clear f3'; (try (have d1' := fun (z : LaterOf xw) => (d1 ⟨z.w, xh.trans (z.h.mono xh.size)⟩ : z.w.cell? _ = _); clear d1; have d1 := d1'; clear d1')); (try (have d2' := fun (z : LaterOf xw) => (d2 ⟨z.w, xh.trans (z.h.mono xh.size)⟩ : z.w.cell? _ = _); clear d2; have d2 := d2'; clear d2')); (try (have d3' := fun (z : LaterOf xw) => (d3 ⟨z.w, xh.trans (z.h.mono xh.size)⟩ : z.w.cell? _ = _); clear d3; have d3 := d3'; clear d3')); have HXB' := HXB.trans (xh.mono HXB.size); clear HXB; have HXB := HXB'; clear HXB'); (try clear p0); have p0 := (f0 ⟨xw, Below.refl _ _⟩ : xw.cell? _ = _); go_wp2)
            try (refine wp_region_later (by kernel_rfl) (by kernel_rfl) ?_; (repeat (go_big_quiet_step (fail))); refine wpQuiet_nil ?_; intro xw hw'; obtain ⟨xq, hw''⟩ := hw'; obtain ⟨xw0, xh⟩ := xq; change xw = xw0 at hw''; subst hw''; (have f0' := fun (z : LaterOf xw) => (f0 ⟨z.w, xh.trans (z.h.mono xh.size)⟩ : z.w.cell? _ = _); clear f0; have f0 := f0'; clear f0'; have f1' := fun (z : LaterOf xw) => (f1 ⟨z.w, xh.trans (z.h.mono xh.size)⟩ : z.w.cell? _ = _); clear f1; have f1 := f1'; clear f1'; have f2' := fun (z : LaterOf xw) => (f2 ⟨z.w, xh.trans (z.h.mono xh.size)⟩ : z.w.cell? _ = _); clear f2; have f2 := f2'; clear f2'; have f3' := fun (z : LaterOf xw) => (f3 ⟨z.w, xh.trans (z.h.mono xh.size)⟩ : z.w.cell? _ = _); clear f3; have f3 := f3'; clear f3'; (try (have d1' := fun (z : LaterOf xw) => (d1 ⟨z.w, xh.trans (z.h.mono xh.size)⟩ : z.w.cell? _ = _); clear d1; have d1 := d1'; clear d1')); (try (have d2' := fun (z : LaterOf xw) => (d2 ⟨z.w, xh.trans (z.h.mono xh.size)⟩ : z.w.cell? _ = _); clear d2; have d2 := d2'; clear d2')); (try (have d3' := fun (z : LaterOf xw) => (d3 ⟨z.w, xh.trans (z.h.mono xh.size)⟩ : z.w.cell? _ = _); clear d3; have d3 := d3'; clear d3')); have HXB' := HXB.trans (xh.mono HXB.size); clear HXB; have HXB := HXB'; clear HXB'); (try clear p0); have p0 := (f0 ⟨xw, Below.refl _ _⟩ : xw.cell? _ = _); go_wp2)
            (refine wp_region_tail 10 (by kernel_rfl) (by kernel_rfl) ?_; simp only [List.take_succ_cons, List.take_zero, List.drop_succ_cons, List.drop_zero]; repeat (go_big_quiet_step (fail)))
            refine wpQuiet_nil ?_; intro xw hw'; obtain ⟨xq, hw''⟩ := hw'; obtain ⟨xw0, xh⟩ := xq; change xw = xw0 at hw''; subst hw''
            have HXB' := HXB.trans (xh.mono HXB.size); clear HXB; have HXB := HXB'; clear HXB'
            have HB := Lib.hid (HU.out.later HXB)
            have u0 := HB.out.froz (k := a * 2 + 1)
            have u1 := HB.out.cell (hcell E1.out)
            have HOX := own_set (own_below HO.out HXB) (show w.heap.size + 1 < w.heap.size + 2 by omega) (a * 2 + 1) (.int .i64 (us - qn))
            have HUX := set_blk (k := a * 2 + 1) (HU.out.later HXB) (us - qn)
            have HRX := (HRz.out.later HXB).other (g' := w.heap.size + 1) (k := a * 2 + 1) (by omega) (.int .i64 (us - qn))
            have HBX := (hB.trans (HXB.mono hB.size)).setCell (p := ⟨w.heap.size + 1, a * 2 + 1, none⟩) (by simp) (.int .i64 (us - qn))
            clear HB
            go_upto_region 10 with (fail)
            have g2' : (xw.setCell ⟨w.heap.size + 1, a * 2 + 1, none⟩ (.int .i64 (us - qn))).cell? ⟨wr.heap.size, 2, none⟩ = some (.int .i64 (b : Int)) := by refine (World.cell?_setCell_other _ _ _ _ ?_).trans (f2 ⟨xw, xh⟩); intro e; injection e with e1; omega
            have g3' : (xw.setCell ⟨w.heap.size + 1, a * 2 + 1, none⟩ (.int .i64 (us - qn))).cell? ⟨wr.heap.size, 3, none⟩ = some (.int .i64 qn) := by refine (World.cell?_setCell_other _ _ _ _ ?_).trans (f3 ⟨xw, xh⟩); intro e; injection e with e1; omega
            have g1' := HUX.cell (hcell E2.out)
            have g2 : ∀ z : LaterOf (xw.setCell ⟨w.heap.size + 1, a * 2 + 1, none⟩ (.int .i64 (us - qn))), z.w.cell? ⟨wr.heap.size, 2, none⟩ = some (.int .i64 (b : Int)) := fun z => z.cell g2'
            have g3 : ∀ z : LaterOf (xw.setCell ⟨w.heap.size + 1, a * 2 + 1, none⟩ (.int .i64 (us - qn))), z.w.cell? ⟨wr.heap.size, 3, none⟩ = some (.int .i64 qn) := fun z => z.cell g3'
            have g1 : ∀ z : LaterOf (xw.setCell ⟨w.heap.size + 1, a * 2 + 1, none⟩ (.int .i64 (us - qn))), z.w.cell? ⟨w.heap.size + 1, b * 2 + 1, none⟩ = some (.int .i64 (us2)) := fun z => z.cell g1'
            clear f0 f1 f2 f3 g1' g2' g3' u0 u1
            try clear d1
            try clear d2
            try clear d3
            generalize xw.setCell ⟨w.heap.size + 1, a * 2 + 1, none⟩ (.int .i64 (us - qn)) = yw at g1 g2 g3 HOX HUX HRX HBX ⊢
            (refine wp_region_tail 10 (by kernel_rfl) (by kernel_rfl) ?_; simp only [List.take_succ_cons, List.take_zero, List.drop_succ_cons, List.drop_zero]; repeat (go_big_quiet_step (fail)))
            refine wpQuiet_nil ?_; intro zw hw'; obtain ⟨xq, hw''⟩ := hw'; obtain ⟨xw0, zh⟩ := xq; change zw = xw0 at hw''; subst hw''
            have HC := Lib.hid (HUX.later zh)
            have u0 := HC.out.froz (k := b * 2 + 1)
            have u1 := HC.out.cell (hcell E2.out)
            have HOX' := own_set (own_below HOX zh) (show w.heap.size + 1 < w.heap.size + 2 by omega) (b * 2 + 1) (.int .i64 (us2 + qn))
            have HUX' := set_blk (k := b * 2 + 1) HC.out (us2 + qn)
            have HRX' := (HRX.later zh).other (g' := w.heap.size + 1) (k := b * 2 + 1) (by omega) (.int .i64 (us2 + qn))
            have HBX' := (HBX.trans (zh.mono HBX.size)).setCell (p := ⟨w.heap.size + 1, b * 2 + 1, none⟩) (by simp) (.int .i64 (us2 + qn))
            clear HC
            go_wp2
            go_meet
            exact ⟨rfl, HOX', HUX', HRX', HBX'⟩
        · as_aux_lemma =>
            have E1 := Lib.hid hu
            have E2 : Hid ((l.set (a * 2 + 1) (us - qn))[a * 2 + 1]? = some (us - qn)) := Lib.hid (by rw [List.getElem?_set_self (List.getElem?_eq_some_iff.1 hu).1])
            try have i0 := castlt0 ha
            try have i1 := castlt1 ha
            try have j0 := castlt0 hb
            try have j1 := castlt1 hb
            try have q1 := wrong_lo h
            try have q2 := wrong_hi h
            try have q3 := wrong_ok h2 h3
            try have q4 := wrong_ok h5 h6
            try have q5 := wrong_ok i0 i1
            try have q6 := wrong_ok j0 j1
            try have q7 := ne4 h1
            try have q8 := bne_of hne
            try have d1 := old _ _ hu
            try have d2 := old _ _ hl
            try have d3 := old _ _ hu'
            try clear hu
            try clear hl
            try clear hu'
            clear old
            try have r1 := not5 i1
            try have r2 := not5 j1
            try have r3 := not5 h3
            try have r4 := not5 h6
            try have r5 := gt5 h
            first | (have hm : mv = false := (by rw [← HMV.out]; first | rfl | assumption); subst hm) | (have hm : mv = true := (by rw [← HMV.out]; rfl); subst hm) | skip
            go_wp2
            try (refine wp_region_later (by kernel_rfl) (by kernel_rfl) ?_; (repeat (go_big_quiet_step (fail))); refine wpQuiet_nil ?_; intro xw hw'; obtain ⟨xq, hw''⟩ := hw'; obtain ⟨xw0, xh⟩ := xq; change xw = xw0 at hw''; subst hw''; (have f0' := fun (z : LaterOf xw) => (f0 ⟨z.w, xh.trans (z.h.mono xh.size)⟩ : z.w.cell? _ = _); clear f0; have f0 := f0'; clear f0'; have f1' := fun (z : LaterOf xw) => (f1 ⟨z.w, xh.trans (z.h.mono xh.size)⟩ : z.w.cell? _ = _); clear f1; have f1 := f1'; clear f1'; have f2' := fun (z : LaterOf xw) => (f2 ⟨z.w, xh.trans (z.h.mono xh.size)⟩ : z.w.cell? _ = _); clear f2; have f2 := f2'; clear f2'; have f3' := fun (z : LaterOf xw) => (f3 ⟨z.w, xh.trans (z.h.mono xh.size)⟩ : z.w.cell? _ = _); clear f3; have f3 := f3'; clear f3'; (try (have d1' := fun (z : LaterOf xw) => (d1 ⟨z.w, xh.trans (z.h.mono xh.size)⟩ : z.w.cell? _ = _); clear d1; have d1 := d1'; clear d1')); (try (have d2' := fun (z : LaterOf xw) => (d2 ⟨z.w, xh.trans (z.h.mono xh.size)⟩ : z.w.cell? _ = _); clear d2; have d2 := d2'; clear d2')); (try (have d3' := fun (z : LaterOf xw) => (d3 ⟨z.w, xh.trans (z.h.mono xh.size)⟩ : z.w.cell? _ = _); clear d3; have d3 := d3'; clear d3')); have HXB' := HXB.trans (xh.mono HXB.size); clear HXB; have HXB := HXB'; clear HXB'); (try clear p0); have p0 := (f0 ⟨xw, Below.refl _ _⟩ : xw.cell? _ = _); go_wp2)
            try (refine wp_region_later (by kernel_rfl) (by kernel_rfl) ?_; (repeat (go_big_quiet_step (fail))); refine wpQuiet_nil ?_; intro xw hw'; obtain ⟨xq, hw''⟩ := hw'; obtain ⟨xw0, xh⟩ := xq; change xw = xw0 at hw''; subst hw''; (have f0' := fun (z : LaterOf xw) => (f0 ⟨z.w, xh.trans (z.h.mono xh.size)⟩ : z.w.cell? _ = _); clear f0; have f0 := f0'; clear f0'; have f1' := fun (z : LaterOf xw) => (f1 ⟨z.w, xh.trans (z.h.mono xh.size)⟩ : z.w.cell? _ = _); clear f1; have f1 := f1'; clear f1'; have f2' := fun (z : LaterOf xw) => (f2 ⟨z.w, xh.trans (z.h.mono xh.size)⟩ : z.w.cell? _ = _); clear f2; have f2 := f2'; clear f2'; have f3' := fun (z : LaterOf xw) => (f3 ⟨z.w, xh.trans (z.h.mono xh.size)⟩ : z.w.cell? _ = _); clear f3; have f3 := f3'; clear f3'; (try (have d1' := fun (z : LaterOf xw) => (d1 ⟨z.w, xh.trans (z.h.mono xh.size)⟩ : z.w.cell? _ = _); clear d1; have d1 := d1'; clear d1')); (try (have d2' := fun (z : LaterOf xw) => (d2 ⟨z.w, xh.trans (z.h.mono xh.size)⟩ : z.w.cell? _ = _); clear d2; have d2 := d2'; clear d2')); (try (have d3' := fun (z : LaterOf xw) => (d3 ⟨z.w, xh.trans (z.h.mono xh.size)⟩ : z.w.cell? _ = _); clear d3; have d3 := d3'; clear d3')); have HXB' := HXB.trans (xh.mono HXB.size); clear HXB; have HXB := HXB'; clear HXB'); (try clear p0); have p0 := (f0 ⟨xw, Below.refl _ _⟩ : xw.cell? _ = _); go_wp2)
            try (refine wp_region_later (by kernel_rfl) (by kernel_rfl) ?_; (repeat (go_big_quiet_step (fail))); refine wpQuiet_nil ?_; intro xw hw'; obtain ⟨xq, hw''⟩ := hw'; obtain ⟨xw0, xh⟩ := xq; change xw = xw0 at hw''; subst hw''; (have f0' := fun (z : LaterOf xw) => (f0 ⟨z.w, xh.trans (z.h.mono xh.size)⟩ : z.w.cell? _ = _); clear f0; have f0 := f0'; clear f0'; have f1' := fun (z : LaterOf xw) => (f1 ⟨z.w, xh.trans (z.h.mono xh.size)⟩ : z.w.cell? _ = _); clear f1; have f1 := f1'; clear f1'; have f2' := fun (z : LaterOf xw) => (f2 ⟨z.w, xh.trans (z.h.mono xh.size)⟩ : z.w.cell? _ = _); clear f2; have f2 := f2'; clear f2'; have f3' := fun (z : LaterOf xw) => (f3 ⟨z.w, xh.trans (z.h.mono xh.size)⟩ : z.w.cell? _ = _); clear f3; have f3 := f3'; clear f3'; (try (have d1' := fun (z : LaterOf xw) => (d1 ⟨z.w, xh.trans (z.h.mono xh.size)⟩ : z.w.cell? _ = _); clear d1; have d1 := d1'; clear d1')); (try (have d2' := fun (z : LaterOf xw) => (d2 ⟨z.w, xh.trans (z.h.mono xh.size)⟩ : z.w.cell? _ = _); clear d2; have d2 := d2'; clear d2')); (try (have d3' := fun (z : LaterOf xw) => (d3 ⟨z.w, xh.trans (z.h.mono xh.size)⟩ : z.w.cell? _ = _); clear d3; have d3 := d3'; clear d3')); have HXB' := HXB.trans (xh.mono HXB.size); clear HXB; have HXB := HXB'; clear HXB'); (try clear p0); have p0 := (f0 ⟨xw, Below.refl _ _⟩ : xw.cell? _ = _); go_wp2)
            (refine wp_region_tail 10 (by kernel_rfl) (by kernel_rfl) ?_; simp only [List.take_succ_cons, List.take_zero, List.drop_succ_cons, List.drop_zero]; repeat (go_big_quiet_step (fail)))
            refine wpQuiet_nil ?_; intro xw hw'; obtain ⟨xq, hw''⟩ := hw'; obtain ⟨xw0, xh⟩ := xq; change xw = xw0 at hw''; subst hw''
            have HXB' := HXB.trans (xh.mono HXB.size); clear HXB; have HXB := HXB'; clear HXB'
            have HB := Lib.hid (HU.out.later HXB)
            have u0 := HB.out.froz (k := a * 2 + 1)
            have u1 := HB.out.cell (hcell E1.out)
            have HOX := own_set (own_below HO.out HXB) (show w.heap.size + 1 < w.heap.size + 2 by omega) (a * 2 + 1) (.int .i64 (us - qn))
            have HUX := set_blk (k := a * 2 + 1) (HU.out.later HXB) (us - qn)
            have HRX := (HRz.out.later HXB).other (g' := w.heap.size + 1) (k := a * 2 + 1) (by omega) (.int .i64 (us - qn))
            have HBX := (hB.trans (HXB.mono hB.size)).setCell (p := ⟨w.heap.size + 1, a * 2 + 1, none⟩) (by simp) (.int .i64 (us - qn))
            clear HB
            go_upto_region 10 with (fail)
            have g2' : (xw.setCell ⟨w.heap.size + 1, a * 2 + 1, none⟩ (.int .i64 (us - qn))).cell? ⟨wr.heap.size, 2, none⟩ = some (.int .i64 (a : Int)) := by refine (World.cell?_setCell_other _ _ _ _ ?_).trans (f2 ⟨xw, xh⟩); intro e; injection e with e1; omega
            have g3' : (xw.setCell ⟨w.heap.size + 1, a * 2 + 1, none⟩ (.int .i64 (us - qn))).cell? ⟨wr.heap.size, 3, none⟩ = some (.int .i64 qn) := by refine (World.cell?_setCell_other _ _ _ _ ?_).trans (f3 ⟨xw, xh⟩); intro e; injection e with e1; omega
            have g1' := HUX.cell (hcell E2.out)
            have g2 : ∀ z : LaterOf (xw.setCell ⟨w.heap.size + 1, a * 2 + 1, none⟩ (.int .i64 (us - qn))), z.w.cell? ⟨wr.heap.size, 2, none⟩ = some (.int .i64 (a : Int)) := fun z => z.cell g2'
            have g3 : ∀ z : LaterOf (xw.setCell ⟨w.heap.size + 1, a * 2 + 1, none⟩ (.int .i64 (us - qn))), z.w.cell? ⟨wr.heap.size, 3, none⟩ = some (.int .i64 qn) := fun z => z.cell g3'
            have g1 : ∀ z : LaterOf (xw.setCell ⟨w.heap.size + 1, a * 2 + 1, none⟩ (.int .i64 (us - qn))), z.w.cell? ⟨w.heap.size + 1, a * 2 + 1, none⟩ = some (.int .i64 (us - qn)) := fun z => z.cell g1'
            clear f0 f1 f2 f3 g1' g2' g3' u0 u1
            try clear d1
            try clear d2
            try clear d3
            generalize xw.setCell ⟨w.heap.size + 1, a * 2 + 1, none⟩ (.int .i64 (us - qn)) = yw at g1 g2 g3 HOX HUX HRX HBX ⊢
            (refine wp_region_tail 10 (by kernel_rfl) (by kernel_rfl) ?_; simp only [List.take_succ_cons, List.take_zero, List.drop_succ_cons, List.drop_zero]; repeat (go_big_quiet_step (fail)))
            refine wpQuiet_nil ?_; intro zw hw'; obtain ⟨xq, hw''⟩ := hw'; obtain ⟨xw0, zh⟩ := xq; change zw = xw0 at hw''; subst hw''
            have HC := Lib.hid (HUX.later zh)
            have u0 := HC.out.froz (k := a * 2 + 1)
            have u1 := HC.out.cell (hcell E2.out)
            have HOX' := own_set (own_below HOX zh) (show w.heap.size + 1 < w.heap.size + 2 by omega) (a * 2 + 1) (.int .i64 (us - qn + qn))
            have HUX' := set_blk (k := a * 2 + 1) HC.out (us - qn + qn)
            have HRX' := (HRX.later zh).other (g' := w.heap.size + 1) (k := a * 2 + 1) (by omega) (.int .i64 (us - qn + qn))
            have HBX' := (HBX.trans (zh.mono HBX.size)).setCell (p := ⟨w.heap.size + 1, a * 2 + 1, none⟩) (by simp) (.int .i64 (us - qn + qn))
            clear HC
            go_wp2
            go_meet
            have e9 : us - qn + qn = us := by omega
            have HUX9 : Blk (zw.setCell ⟨w.heap.size + 1, a * 2 + 1, none⟩ (.int .i64 us)) (w.heap.size + 1) 58 (((l.set (a * 2 + 1) (us - qn)).set (a * 2 + 1) (us - qn + qn)).flatMap icell) := by
              have := HUX'
              rw [e9] at this ⊢
              exact this
            rw [e9] at HOX' HRX' HBX'
            exact ⟨rfl, HOX', HUX9, HRX', HBX'⟩
      case rest =>
       as_aux_lemma =>
        obtain ⟨rfl, hox, hux, hrx, hbx⟩ := hcut
        have HOX := Lib.hid hox
        have HUX := Lib.hid hux
        have HRX := Lib.hid hrx
        have HBX := hbx
        clear hox hux hrx hbx c0 c1 c2 c3 HW HMV
        have how := HOX.out.alloc (.cells #[.int .i64 e] 23)
        have hnew := Rd.of_own (own_new wc 23 #[.int .i64 e] 1 1 rfl (by simp [maxLen]) (Nat.le_refl _))
        have hBX := HUX.out.lt
        clear HW0
        go_wp2_with (at_builtin; refine wpList_append_rd _ rfl (.tmp 159) (.tmp 161) 53 rfl (w.heap.size + 2) 23 i0 (.int .i64 0) 1 8 Try.underlying53 hi hz0 hz1 hz2 rfl (by omega) _ k _ rfl how _ _ 1 1 _ rfl hnew (by simp [Value.oneCell']) (by simp only [maxLen]; omega) (by omega) (by simp; omega) ?_; intro v2 w2 hown2 hg2 hat2)
        have hB2 := below_grown (HBX.alloc HBX.size _) (own_mono how (show w.heap.size ≤ w.heap.size + 2 by omega)) hg2 (by simp; omega)
        have hu2 := (HUX.out.alloc (.cells #[.int .i64 e] 23)).grown hg2 (own_far how (by omega))
        have hr2 := (HRX.out.alloc (.cells #[.int .i64 e] 23)).grown hg2 (own_far how (by omega))
        go_roundg (n - (k + 1))
        case measure => omega
        case rel => exact ⟨k + 1, es ++ [e], l', by omega, rfl, by go_num, HN, HL', by have := hown2; simpa [List.flatMap_append, icell] using this, hu2, hr2, hB2⟩
    · as_aux_lemma =>
      obtain rfl : k = n := by omega
      have HE : Hid (ES = es ∧ lf = l) := Lib.hid (by
        obtain ⟨rest, hp, he⟩ := HF.out
        rw [List.drop_eq_nil_of_le (by rw [HP.out]; omega)] at hp
        cases hp
        exact ⟨by simpa using he, rfl⟩)
      clear HF hlt
      go_upto_region 27 with (fail)
      refine wp_region_tail 3 (by kernel_rfl) (by kernel_rfl) ?_
      simp only [List.take_succ_cons, List.take_zero, List.drop_succ_cons, List.drop_zero]
      go_big_quiet_step (fail)
      refine quiet_load rfl 58 (.tmp 4) rfl (.agg (l.flatMap icell).toArray) (fun W hW => ?_) ?_
      · obtain ⟨z, rfl⟩ := hW
        exact loadAt_of ((HU.out.later z.h).load Try.underlying58 (size12 HLL.out))
      simp only [Act.put, List.setIfInBounds_toArray, List.set_cons_succ, List.set_cons_zero]
      go_big_quiet_step (fail)
      refine wpQuiet_nil ?_; intro xw hw'; obtain ⟨xq, hw''⟩ := hw'; obtain ⟨xw0, xh⟩ := xq; change xw = xw0 at hw''; subst hw''
      have HR9 := Lib.hid (HRz.out.later xh)
      have HO9 := Lib.hid (own_below HO.out xh)
      have hB9 := hB.trans (xh.mono hB.size)
      go_wp2_with (refine wpList_store_row rfl 58 (.tmp 3) (.tmp 165) rfl w.heap.size (l.flatMap icell).toArray rfl rfl 58 (zero12.flatMap icell).toArray HR9.out (size12' HLL.out) (by rw [List.size_toArray, List.size_toArray, icell_size, icell_size, HLL.out]; rfl) (icell_one l) ?_)
      have hld := (HR9.out.row (l.flatMap icell)).load Try.underlying58 (size12 HLL.out)
      have hB3 := below_row hB9 (Nat.le_refl _) (l.flatMap icell).toArray
      have ho3 := own_grown HO9.out (grown_row xw w.heap.size (l.flatMap icell).toArray) (.inr (own_far HO9.out (by omega)).symm)
      obtain ⟨rfl, rfl⟩ := HE.out
      obtain ⟨Av, cv, rfl⟩ := own_slice HO9.out
      refine bodyPost_ret (v := .tuple #[.slice Av k cv, .agg (lf.flatMap icell).toArray]) ?_ rfl ?_
      · simp [results, Try.results27, Act.put, asAddr, hld]
      · refine ⟨_, rfl, ?_, hB3⟩
        rw [HES.out, HP.out]
        exact own_mono ho3 (by omega)
end Quota
end Go.Proofs.Ytljdfkejhgaciaa
