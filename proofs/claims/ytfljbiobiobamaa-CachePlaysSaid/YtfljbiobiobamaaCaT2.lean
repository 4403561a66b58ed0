/-
  Walk of the reference's TPlay: every operation. Conditions: none beyond each theorem's own premises.
-/
import Derived.Test.YtfljbiobiobamaaCaT
namespace Go.Proofs.Ytfljbiobiobamaa
open Go.RowKit Go.Shelf
set_option linter.unusedVariables false
namespace Ca
theorem mk_len {cs : Nat} {L : List Pg} {i : Nat} (h : i < L.length) (p : Pg) : (L.eraseIdx i ++ [p]).length = L.length := by
  rw [List.length_append, List.length_eraseIdx, if_pos h]
  simp
  omega

theorem RT.dirat {L : List Pg} {now i : Nat} {p : Pg} {u dt : Int → Option Int} {dy : Int → Option Bool} (R : RT L now u dt dy) (hi : L[i]? = some p) (hnd : (L.map Pg.n).Nodup) : dy (p.n : Int) = some true ↔ p.w = true := by
  rw [R.dir]
  refine ⟨fun ⟨q, hq, e, hw⟩ => ?_, fun hw => ⟨p, List.mem_of_getElem? hi, rfl, hw⟩⟩
  obtain ⟨j, hj⟩ := List.getElem?_of_mem hq
  have h1 : (L.map Pg.n)[j]? = some q.n := by rw [List.getElem?_map, hj]; rfl
  have h2 : (L.map Pg.n)[i]? = some p.n := by rw [List.getElem?_map, hi]; rfl
  have hjl := (List.getElem?_eq_some_iff.1 hj).1
  have e2 : p.n = q.n := by omega
  have := (List.getElem?_inj (by rw [List.length_map]; exact hjl) hnd).1 (h1.trans (by rw [h2, e2]))
  subst this
  rw [hi] at hj
  cases hj
  exact hw

theorem fcl_n (k : Nat) (p : Pg) : (fcl k p).n = p.n := by unfold fcl; split <;> rfl
theorem fcl_d (k : Nat) (p : Pg) : (fcl k p).d = p.d := by unfold fcl; split <;> rfl
theorem fcl_ne {k : Nat} {p : Pg} (h : p.n ≠ k) : fcl (k + 1) p = fcl k p := by
  unfold fcl
  by_cases h2 : p.n < k
  · rw [if_pos (by omega), if_pos h2]
  · rw [if_neg (by omega), if_neg h2]
theorem fcl_own {k : Nat} {p : Pg} (h : p.n = k) : fcl k p = p := by unfold fcl; rw [if_neg (by omega)]
theorem dir_yes {L : List Pg} {j : Nat} {dy : Int → Option Bool} (h : ∀ x : Int, dy x = some true ↔ ∃ p ∈ L.map (fcl j), x = (p.n : Int) ∧ p.w = true) (x : Int) : mup dy (j : Int) false x = some true ↔ ∃ p ∈ L.map (fcl (j + 1)), x = (p.n : Int) ∧ p.w = true := by
  by_cases hx : x = (j : Int)
  · subst hx
    rw [mup_same]
    refine ⟨fun e => by simp at e, fun ⟨p, hp, e, hw⟩ => ?_⟩
    obtain ⟨q, hq, rfl⟩ := List.mem_map.1 hp
    rw [fcl_n] at e
    have : fcl (j + 1) q = q.clean := by unfold fcl; rw [if_pos (by omega)]
    rw [this] at hw
    cases hw
  · rw [mup_other _ _ hx, h]
    constructor
    · rintro ⟨p, hp, e, hw⟩
      obtain ⟨q, hq, rfl⟩ := List.mem_map.1 hp
      rw [fcl_n] at e
      have hne : q.n ≠ j := fun e2 => hx (by rw [e, e2])
      exact ⟨fcl (j + 1) q, List.mem_map_of_mem hq, by rw [fcl_n, e], by rw [fcl_ne hne]; exact hw⟩
    · rintro ⟨p, hp, e, hw⟩
      obtain ⟨q, hq, rfl⟩ := List.mem_map.1 hp
      rw [fcl_n] at e
      have hne : q.n ≠ j := fun e2 => hx (by rw [e, e2])
      exact ⟨fcl j q, List.mem_map_of_mem hq, by rw [fcl_n, e], by rw [← fcl_ne hne]; exact hw⟩
theorem fcl_zero (L : List Pg) : L.map (fcl 0) = L := by
  conv => rhs; rw [← List.map_id L]
  exact List.map_congr_left fun p _ => by unfold fcl; rw [if_neg (Nat.not_lt_zero _)]; rfl
theorem fcl_all {k : Nat} {L : List Pg} (h : ∀ p ∈ L, p.n < k) : L.map (fcl k) = L.map Pg.clean :=
  List.map_congr_left fun p hp => by unfold fcl; rw [if_pos (h p hp)]

/-- the oldest of those seen -/
def OldInv (L : List Pg) (u : Int → Option Int) (todo : List Int) (old : Int) : Prop :=
  (old = -1 ∧ ∀ q ∈ L, (q.n : Int) ∈ todo) ∨ ∃ p ∈ L, old = (p.n : Int) ∧ ∃ t, u old = some t ∧ ∀ q ∈ L, ∀ t', u (q.n : Int) = some t' → (q.n : Int) ∉ todo → t ≤ t'
theorem old_first {L : List Pg} {u : Int → Option Int} {todo : List Int} {x a : Int} (hnd : todo.Nodup) (hall : ∀ q ∈ L, (q.n : Int) ∈ todo) (hp : ∃ p ∈ L, x = (p.n : Int)) (ha : u x = some a) : OldInv L u (todo.erase x) x := by
  obtain ⟨p, hp, e⟩ := hp
  refine .inr ⟨p, hp, e, a, ha, fun q hq t' ht' hno => ?_⟩
  by_cases hx : (q.n : Int) = x
  · rw [hx, ha] at ht'; cases ht'; exact Int.le_refl _
  · exact absurd ((hnd.mem_erase_iff).2 ⟨hx, hall q hq⟩) hno
theorem old_less {L : List Pg} {u : Int → Option Int} {todo : List Int} {x a t : Int} (hnd : todo.Nodup) (hp : ∃ p ∈ L, x = (p.n : Int)) (ha : u x = some a) (hle : a ≤ t) (hmin : ∀ q ∈ L, ∀ t', u (q.n : Int) = some t' → (q.n : Int) ∉ todo → t ≤ t') : OldInv L u (todo.erase x) x := by
  obtain ⟨p, hp, e⟩ := hp
  refine .inr ⟨p, hp, e, a, ha, fun q hq t' ht' hno => ?_⟩
  by_cases hx : (q.n : Int) = x
  · rw [hx, ha] at ht'; cases ht'; exact Int.le_refl _
  · exact Int.le_trans hle (hmin q hq t' ht' (fun h => hno ((hnd.mem_erase_iff).2 ⟨hx, h⟩)))
theorem old_keep {L : List Pg} {u : Int → Option Int} {todo : List Int} {x a t : Int} {p : Pg} (hnd : todo.Nodup) (hp : p ∈ L) (ht : u (p.n : Int) = some t) (ha : u x = some a) (hle : t ≤ a) (hmin : ∀ q ∈ L, ∀ t', u (q.n : Int) = some t' → (q.n : Int) ∉ todo → t ≤ t') : OldInv L u (todo.erase x) (p.n : Int) := by
  refine .inr ⟨p, hp, rfl, t, ht, fun q hq t' ht' hno => ?_⟩
  by_cases hx : (q.n : Int) = x
  · rw [hx, ha] at ht'; cases ht'; exact hle
  · exact hmin q hq t' ht' (fun h => hno ((hnd.mem_erase_iff).2 ⟨hx, h⟩))
theorem OldInv.last {q : Pg} {tl : List Pg} {now : Nat} {u dt : Int → Option Int} {dy : Int → Option Bool} {old : Int} (h : OldInv (q :: tl) u [] old) (R : RT (q :: tl) now u dt dy) : old = (q.n : Int) := by
  rcases h with ⟨_, h⟩ | ⟨p, hp, rfl, t, ht, hmin⟩
  · exact absurd (h q (by simp)) (by simp)
  · rcases List.mem_cons.1 hp with rfl | hp
    · rfl
    · obtain ⟨t1, t2, e1, e2, hlt⟩ := (List.pairwise_cons.1 R.ord).1 p hp
      have := hmin q (by simp) t1 e1 (by simp)
      rw [ht] at e2
      cases e2
      omega

set_option maxRecDepth 100000 in
set_option maxHeartbeats 6400000 in
theorem tplay_ok (sz : Nat) (Ad : Option Addr) (n c : Nat) (ops : List O) (cf : Cs) (w : World) (hr : Rd w w.heap.size 3 Ad n (ops.flatMap O.cells)) (hl : ops.length = n) (hn : n ≤ 5864062014805) (h1 : 1 ≤ sz) (h16 : sz ≤ 16) (hg : ∀ o ∈ ops, Good o) (hp : Plays sz C0 ops cf) :
    Calls Try.prog 8 #[.int .i64 (sz : Int), .slice Ad n c] w (CRet w cf) := by
  obtain ⟨ti, HTI⟩ : ∃ ti, Hid (Try.prog.info? 3 = some ti ∧ ti.zero = some (.int .i64 0) ∧ ti.size = 1 ∧ ti.bytes = 8) := by
    obtain ⟨ti, hti, t0, t1, t2⟩ := info_parts cint_info
    exact ⟨ti, Lib.hid ⟨hti, t0, t1, t2⟩⟩
  have H1 : Hid (Sep w (w.alloc (.cells #[.slice none 0 0, .int .i64 0, .int .i64 0, .int .i64 0, .int .i64 0, .int .i64 0, .int .i64 0, .int .i64 0, .int .i64 0, .int .i64 0, .int .i64 0, .int .i64 0, .int .i64 0, .int .i64 0, .int .i64 0, .int .i64 0, .int .i64 0, .int .i64 0, .int .i64 0] 26)) [.cells w.heap.size 26 Z0]) := Lib.hid ((Sep.nil_ w).new 26 Z0)
  have hmm := @run_makeMap Try.prog
  have HR := Lib.hid hr
  have HL := Lib.hid hl
  have HG := Lib.hid hg
  have HF : Hid (Plays sz C0 (ops.drop 0) cf) := Lib.hid hp
  have HOK0 : Hid (Ok sz C0) := Lib.hid (ok0 sz)
  have z1 : ¬ (sz : Int) < 1 := by omega
  have z2 : ¬ (sz : Int) > 16 := by omega
  have H16 := Lib.hid h16
  have HS1 := Lib.hid h1
  clear hr hl hg hp h1 h16
  go_enter Try.func8, Try.ntmps8
  go_upto_region 1 with (fail)
  generalize w.alloc (.cells #[.slice none 0 0, .int .i64 0, .int .i64 0, .int .i64 0, .int .i64 0, .int .i64 0, .int .i64 0, .int .i64 0, .int .i64 0, .int .i64 0, .int .i64 0, .int .i64 0, .int .i64 0, .int .i64 0, .int .i64 0, .int .i64 0, .int .i64 0, .int .i64 0, .int .i64 0] 26) = w1 at H1 ⊢
  generalize hg4 : w.heap.size = g4 at H1 ⊢
  have HG4 := Lib.hid hg4
  clear hg4
  go_wp2
  go_loopg [30] n (fun q i wr => ∃ (k : Nat), k ≤ n ∧ q = n - k ∧ i = .int .i64 (k : Int) ∧ Sep w wr [.cells g4 26 Z0])
  case atStart => exact ⟨0, Nat.zero_le _, rfl, rfl, H1.out⟩
  case round =>
    clear H1
    obtain ⟨k, hk, rfl, rfl, hs⟩ := hrel
    have HS := Lib.hid hs
    clear hs
    by_cases hlt : k < n
    · obtain ⟨b, off, rfl, hbb, hc⟩ := HR.out.at_ O.len (by omega)
      obtain ⟨o, ho⟩ : ∃ o, ops[k]? = some o := ⟨_, List.getElem?_eq_getElem (by rw [HL.out]; exact hlt)⟩
      have HWB := Lib.hid HS.out.below
      have q0 : wr.cell? ⟨b, off + k * 3, none⟩ = some (.int .i64 o.kind) := (HWB.out.cell hbb).trans (hc k 0 o _ ho rfl)
      have q1 : wr.cell? ⟨b, off + k * 3 + 1, none⟩ = some (.int .i64 o.page) := (HWB.out.cell hbb).trans (hc k 1 o _ ho rfl)
      have q2 : wr.cell? ⟨b, off + k * 3 + 2, none⟩ = some (.int .i64 o.data) := (HWB.out.cell hbb).trans (hc k 2 o _ ho rfl)
      have i0 : (0 : Int) ≤ (k : Int) := by omega
      have i1 : (k : Int) < (n : Int) := by omega
      obtain ⟨a1, a2, a3, a4⟩ := HG.out o (List.mem_of_getElem? ho)
      clear hc ho hbb HWB
      go_upto_region 6 with (fail)
      have p0 := (Blk.new wr 59 o.cells).cell (k := 0) rfl
      have p1 := (Blk.new wr 59 o.cells).cell (k := 1) rfl
      have p2 := (Blk.new wr 59 o.cells).cell (k := 2) rfl
      unfold O.cells at p0 p1 p2
      have H2 := Lib.hid (HS.out.alloc (.cells #[.int .i64 o.kind, .int .i64 o.page, .int .i64 o.data] 59))
      clear q0 q1 q2 HS p2
      generalize wr.alloc (.cells #[.int .i64 o.kind, .int .i64 o.page, .int .i64 o.data] 59) = w2 at H2 p0 p1 ⊢
      generalize wr.heap.size = gx at p0 p1 ⊢
      have b1 : ¬ o.kind < 1 := by omega
      have b2 : ¬ o.kind > 3 := by omega
      have b3 : ¬ o.page < 0 := by omega
      have b4 : ¬ o.page > 15 := by omega
      clear a1 a2 a3 a4
      go_wp2
      go_roundg (n - (k + 1))
      case measure => omega
      case rel => exact ⟨k + 1, by omega, rfl, by go_num, H2.out⟩
    · obtain rfl : n = k := by omega
      have HR2 := Lib.hid (HR.out.below HS.out.below)
      have HN0 : Hid (Sep w wr [.cells g4 26 Z0]) := HS
      clear HS
      have S0 : Hid (Sep wr ((((((wr.alloc (.cells #[.slice none 0 0, .int .i64 0, .int .i64 0, .int .i64 0, .int .i64 0, .int .i64 0, .int .i64 0, .int .i64 0, .int .i64 0, .int .i64 0, .int .i64 0, .int .i64 0, .int .i64 0, .int .i64 0, .int .i64 0, .int .i64 0, .int .i64 0, .int .i64 0, .int .i64 0] 26)).alloc (.map #[] 0)).alloc (.map #[] 0)).alloc (.cells #[.map (some (wr.heap.size + 1 + 1))] 67)).alloc (.map #[] 0)).alloc (.cells #[.map (some (wr.heap.size + 1 + 1 + 1 + 1))] 68))
          [cdI wr.heap.size (.slice none 0 0) 0 0 (List.replicate 16 0), c10 (wr.heap.size + 1 + 1 + 1) (wr.heap.size + 1 + 1), c11 (wr.heap.size + 1 + 1 + 1 + 1 + 1) (wr.heap.size + 1 + 1 + 1 + 1), im (wr.heap.size + 1 + 1) 0 mno, bm (wr.heap.size + 1 + 1 + 1 + 1) 0 mno, im (wr.heap.size + 1) 0 mno, .row 3 1 (.slice none 0 0) 0 (([] : List Int).flatMap icell)]) := Lib.hid (by
        have h1 := (((Sep.nil_ wr).new 26 Z0).newMap Try.prog 3 (Value.int .i64) ienc).newMap Try.prog 3 (Value.int .i64) ienc
        have h2 := ((h1.new 67 [.map (some (wr.heap.size + 1 + 1))]).newMap Try.prog 3 (Value.int .i64) benc).new 68 [.map (some (wr.heap.size + 1 + 1 + 1 + 1))]
        have h3 := h2.nilRow 3 1 none
        have e : ∀ (W : World) (o : Obj), (W.alloc o).heap.size = W.heap.size + 1 := fun W o => by simp
        simp only [e] at h3
        exact h3.pick [0, 3, 5, 2, 4, 1, 6] (by decide) (by simp))
      go_wp2
      clear hmm
      generalize (((((wr.alloc (.cells #[.slice none 0 0, .int .i64 0, .int .i64 0, .int .i64 0, .int .i64 0, .int .i64 0, .int .i64 0, .int .i64 0, .int .i64 0, .int .i64 0, .int .i64 0, .int .i64 0, .int .i64 0, .int .i64 0, .int .i64 0, .int .i64 0, .int .i64 0, .int .i64 0, .int .i64 0] 26)).alloc (.map #[] 0)).alloc (.map #[] 0)).alloc (.cells #[.map (some (wr.heap.size + 1 + 1))] 67)).alloc (.map #[] 0)).alloc (.cells #[.map (some (wr.heap.size + 1 + 1 + 1 + 1))] 68) = wz at S0 ⊢
      obtain ⟨g11, HG11⟩ : ∃ g, Hid (g = wr.heap.size + 1 + 1 + 1 + 1 + 1) := ⟨_, Lib.hid rfl⟩
      rw [← HG11.out] at S0 ⊢
      obtain ⟨gy, HGY⟩ : ∃ g, Hid (g = wr.heap.size + 1 + 1 + 1 + 1) := ⟨_, Lib.hid rfl⟩
      rw [← HGY.out] at S0
      obtain ⟨g10, HG10⟩ : ∃ g, Hid (g = wr.heap.size + 1 + 1 + 1) := ⟨_, Lib.hid rfl⟩
      rw [← HG10.out] at S0 ⊢
      obtain ⟨gd, HGD⟩ : ∃ g, Hid (g = wr.heap.size + 1 + 1) := ⟨_, Lib.hid rfl⟩
      rw [← HGD.out] at S0
      obtain ⟨gu, HGU⟩ : ∃ g, Hid (g = wr.heap.size + 1) := ⟨_, Lib.hid rfl⟩
      rw [← HGU.out] at S0 ⊢
      obtain ⟨g8, HG8⟩ : ∃ g, Hid (g = wr.heap.size) := ⟨_, Lib.hid rfl⟩
      rw [← HG8.out] at S0 ⊢
      clear HG11 HGY HG10 HGD HGU HG8
      obtain ⟨wA, HWA⟩ : ∃ wA : World, Hid (wA = wr) := ⟨_, Lib.hid rfl⟩
      rw [← HWA.out] at S0 HR2 HN0
      clear HWA
      go_loopg [60] n (fun q i wr => ∃ (k : Nat) (cs : Cs) (Ar : Option Addr) (cr nd ny : Nat) (u dt : Int → Option Int) (dy : Int → Option Bool), k ≤ n ∧ q = n - k ∧ i = .int .i64 (k : Int) ∧ Hid (Ok sz cs) ∧ Hid (Bd cs k) ∧ Hid (Plays sz cs (ops.drop k) cf) ∧ Hid (RT cs.L k u dt dy) ∧ Hid (nd ≤ k) ∧ Hid (ny ≤ k) ∧
        Sep wA wr [cdI g8 (.slice Ar cs.rd.length cr) cs.f cs.s cs.st, c10 g10 gd, c11 g11 gy, im gd nd dt, bm gy ny dy, im gu cs.L.length u, rdI Ar cs.rd.length cr cs.rd])
      case atStart => exact ⟨0, C0, none, 0, 0, 0, mno, mno, mno, Nat.zero_le _, rfl, rfl, HOK0, Lib.hid bd0, HF, Lib.hid rt0, Lib.hid (Nat.le_refl _), Lib.hid (Nat.le_refl _), S0.out⟩
      case round =>
        clear HF S0 HOK0
        obtain ⟨k, cs, Ar, cr, nd, ny, u, dt, dy, hk, rfl, rfl, HOK, HBD, HF, HRT, HNDK, HNYK, hs⟩ := hrel
        have HS := Lib.hid hs
        clear hs
        by_cases hlt : k < n
        · obtain ⟨b, off, rfl, hbb, hc⟩ := HR2.out.at_ O.len (by omega)
          obtain ⟨o, ho⟩ : ∃ o, ops[k]? = some o := ⟨_, List.getElem?_eq_getElem (by rw [HL.out]; exact hlt)⟩
          have hbb2 : b < wA.heap.size := Nat.lt_of_lt_of_le hbb HN0.out.below.size
          have HWB := Lib.hid HS.out.below
          obtain ⟨c1, HWAY, HP2⟩ : ∃ c1, Hid (Way sz cs o c1) ∧ Hid (Plays sz c1 (ops.drop (k + 1)) cf) := by
            have h1 := HF.out
            rw [drop_at ho] at h1
            cases h1 with
            | cons hw hp => exact ⟨_, Lib.hid hw, Lib.hid hp⟩
          have HGO : Hid (Good o) := Lib.hid (HG.out o (List.mem_of_getElem? ho))
          have HOK2 : Hid (Ok sz c1) := Lib.hid (way_ok HOK.out HGO.out HS1.out HWAY.out)
          have HBD2 : Hid (Bd c1 (k + 1)) := Lib.hid (way_bd HOK.out H16.out HBD.out HWAY.out)
          have q0 : wr.cell? ⟨b, off + k * 3, none⟩ = some (.int .i64 o.kind) := (HWB.out.cell hbb2).trans (hc k 0 o _ ho rfl)
          have q1 : wr.cell? ⟨b, off + k * 3 + 1, none⟩ = some (.int .i64 o.page) := (HWB.out.cell hbb2).trans (hc k 1 o _ ho rfl)
          have q2 : wr.cell? ⟨b, off + k * 3 + 2, none⟩ = some (.int .i64 o.data) := (HWB.out.cell hbb2).trans (hc k 2 o _ ho rfl)
          have i0 : (0 : Int) ≤ (k : Int) := by omega
          have i1 : (k : Int) < (n : Int) := by omega
          clear hc ho hbb hbb2 HWB HF
          go_upto_region 17 with (fail)
          have H2 := Lib.hid (HS.out.new 59 [.int .i64 o.kind, .int .i64 o.page, .int .i64 o.data])
          clear q0 q1 q2 HS
          generalize wr.alloc (.cells #[.int .i64 o.kind, .int .i64 o.page, .int .i64 o.data] 59) = wb at H2 ⊢
          generalize wr.heap.size = gx at H2 ⊢
          obtain ⟨kd, pg, od⟩ := o
          have p0 := H2.out.cell 7 rfl (k := 0) rfl
          have p1 := H2.out.cell 7 rfl (k := 1) rfl
          simp only at p0 p1
          have way := HWAY.out
          clear HWAY
          cases way with
          | @hitW i p hk0 hi hp =>
            simp only at hk0 hp
            subst hk0 hp
            obtain ⟨np, pd, pwr⟩ := p
            simp only at p0 p1 H2
            have hil := (List.getElem?_eq_some_iff.1 hi).1
            have hn16 : np < 16 := HOK.out.low _ (List.mem_of_getElem? hi)
            have HPW : Hid ((Lit.int .i64 (np : Int)).wf = true) := Lib.hid (WalkArith.wf_i64 (by omega))
            have HRW := Lib.hid (HRT.out.hit hi HOK.out.nd)
            simp only at HRW
            have hus : (u (np : Int)).isSome = true := (HRT.out.dom _).2 ⟨_, List.mem_of_getElem? hi, rfl⟩
            have HLEN : Hid ((cs.L.eraseIdx i ++ [(⟨np, od, true⟩ : Pg)]).length = cs.L.length) := Lib.hid (mk_len (cs := 0) hil _)
            have hll : cs.L.length ≤ 16 := Nat.le_trans HOK.out.len H16.out
            obtain ⟨t, ht⟩ := Option.isSome_iff_exists.1 hus
            have l2 := H2.out.look2 5 rfl kint HPW.out Try.underlying67 (iz wb)
            rw [ht] at l2
            simp only [Option.elim, Option.isSome, ienc] at l2
            obtain ⟨wc, hrun, _, H3'⟩ := H2.out.store 5 rfl kint HPW.out Try.underlying67 (by simp only [maxLen]; omega) (k : Int)
            rw [if_pos hus] at H3'
            simp only [ienc] at hrun
            obtain ⟨f5, HF5⟩ : ∃ z, Hid (z = cs.f) := ⟨_, Lib.hid rfl⟩
            obtain ⟨nr, HNR⟩ : ∃ z, Hid (z = cs.rd.length) := ⟨_, Lib.hid rfl⟩
            obtain ⟨rd, HRD⟩ : ∃ z, Hid (z = cs.rd) := ⟨_, Lib.hid rfl⟩
            obtain ⟨s5, HS5⟩ : ∃ z, Hid (z = cs.s) := ⟨_, Lib.hid rfl⟩
            obtain ⟨st5, HST5⟩ : ∃ z, Hid (z = cs.st) := ⟨_, Lib.hid rfl⟩
            obtain ⟨u6, HU6⟩ : ∃ z, Hid (z = mup u (np : Int) (k : Int)) := ⟨_, Lib.hid rfl⟩
            obtain ⟨nu6, HNU6⟩ : ∃ z, Hid (z = (cs.L.eraseIdx i ++ [(⟨np, od, true⟩ : Pg)]).length) := ⟨_, Lib.hid rfl⟩
            have HB : Hid (Sep wA wc [cdI g8 (.slice Ar nr cr) f5 s5 st5, c10 g10 gd, c11 g11 gy, im gd nd dt, bm gy ny dy, im gu nu6 u6, .row 3 1 (.slice Ar nr cr) nr (rd.flatMap icell), opI gx 2 (np : Int) od]) := Lib.hid (by
              rw [HF5.out, HNR.out, HRD.out, HS5.out, HST5.out, HU6.out, HNU6.out, HLEN.out]
              exact H3')
            have o0 := HB.out.cell 7 rfl (k := 0) rfl
            skip
            clear H2 H3' ht hus hil hi HRT HOK HBD HLEN hll
            go_upto_region 35 with (fail)
            clear l2 hrun p0 p1 o0
            have HND : Hid (nd < maxLen) := Lib.hid (by have := HNDK.out; simp only [maxLen]; omega)
            have HNY : Hid (ny < maxLen) := Lib.hid (by have := HNYK.out; simp only [maxLen]; omega)
            refine wp_region_inv0 (fun ac0 L ac w' => ∃ x119 x120 x121 x122 x123 x124 x125 x126, ac = turn ac0 [(119, x119), (120, x120), (121, x121), (122, x122), (123, x123), (124, x124), (125, x125), (126, x126)] ∧ (L 0 = true → x119 = .map (some gd)) ∧ (L 1 = true → x120 = .pointer (some ⟨gx, 1, none⟩)) ∧ (L 2 = true → x121 = .int .i64 (np : Int)) ∧ (L 3 = true → x122 = .map (some gy)) ∧ (L 4 = true → x123 = .pointer (some ⟨gx, 1, none⟩)) ∧ (L 5 = true → x124 = .int .i64 (np : Int)) ∧ (L 6 = true → x125 = .pointer (some ⟨gx, 2, none⟩)) ∧ (L 7 = true → x126 = .int .i64 od) ∧ (L 2 = true → L 1 = true) ∧ (L 5 = true → L 4 = true) ∧ (L 7 = true → L 6 = true) ∧ (L 8 = true → L 0 = true ∧ L 1 = true ∧ L 2 = true ∧ L 6 = true ∧ L 7 = true) ∧ (L 9 = true → L 0 = true ∧ L 1 = true ∧ L 2 = true ∧ L 3 = true ∧ L 4 = true ∧ L 5 = true ∧ L 6 = true ∧ L 7 = true ∧ L 8 = true) ∧ (if L 9 = true then (Sep wA w' [cdI g8 (.slice Ar nr cr) f5 s5 st5, c10 g10 gd, c11 g11 gy, im gd (if (dt (np : Int)).isSome then nd else nd + 1) (mup dt (np : Int) od), bm gy (if (dy (np : Int)).isSome then ny else ny + 1) (mup dy (np : Int) true), im gu nu6 u6, .row 3 1 (.slice Ar nr cr) nr (rd.flatMap icell), opI gx 2 (np : Int) od]) else (if L 8 = true then (Sep wA w' [cdI g8 (.slice Ar nr cr) f5 s5 st5, c10 g10 gd, c11 g11 gy, im gd (if (dt (np : Int)).isSome then nd else nd + 1) (mup dt (np : Int) od), bm gy ny dy, im gu nu6 u6, .row 3 1 (.slice Ar nr cr) nr (rd.flatMap icell), opI gx 2 (np : Int) od]) else Sep wA w' [cdI g8 (.slice Ar nr cr) f5 s5 st5, c10 g10 gd, c11 g11 gy, im gd nd dt, bm gy ny dy, im gu nu6 u6, .row 3 1 (.slice Ar nr cr) nr (rd.flatMap icell), opI gx 2 (np : Int) od]))) rfl (by kernel_rfl) ?_ ?_ ?_
            · simp only [turn, List.foldl_cons, List.foldl_nil, List.setIfInBounds_toArray, List.set_cons_succ, List.set_cons_zero]
              exact ⟨_, _, _, _, _, _, _, _, rfl, (fun h => absurd h (by decide)), (fun h => absurd h (by decide)), (fun h => absurd h (by decide)), (fun h => absurd h (by decide)), (fun h => absurd h (by decide)), (fun h => absurd h (by decide)), (fun h => absurd h (by decide)), (fun h => absurd h (by decide)), (fun h => absurd h (by decide)), (fun h => absurd h (by decide)), (fun h => absurd h (by decide)), (fun h => absurd h (by decide)), (fun h => absurd h (by decide)), by simpa using HB.out.drew⟩
            · rintro L ac w' i o ⟨x119, x120, x121, x122, x123, x124, x125, x126, ha, p0, p1, p2, p3, p4, p5, p6, p7, q2, q5, q7, q8, q9, hS⟩ ho hi he
              simp only [turn, List.foldl_cons, List.foldl_nil, List.setIfInBounds_toArray, List.set_cons_succ, List.set_cons_zero] at ha ⊢
              subst ha
              rcases i with _|_|_|_|_|_|_|_|_|_|i
              all_goals cases ho
              all_goals simp [Region.binds] at he
              · have h8 : L 8 = false := by cases hh : L 8 with | false => rfl | true => (have hq := q8 hh; simp [hi] at hq)
                have h9 : L 9 = false := by cases hh : L 9 with | false => rfl | true => (have hq := q9 hh; simp [hi] at hq)
                have f0 : w'.cell? ⟨g10, 0, none⟩ = some (.map (some gd)) := by
                  rw [if_neg (by simp [h9]), if_neg (by simp [h8])] at hS
                  exact hS.cell 1 rfl (k := 0) rfl
                refine wpOp_step rfl (fun K hK => ?_)
                go_simp
                exact hK _ _ ⟨_, _, _, _, _, _, _, _, rfl, (fun _ => rfl), (by first | exact p1 | exact fun _ => rfl), (by first | exact p2 | exact fun _ => rfl), (by first | exact p3 | exact fun _ => rfl), (by first | exact p4 | exact fun _ => rfl), (by first | exact p5 | exact fun _ => rfl), (by first | exact p6 | exact fun _ => rfl), (by first | exact p7 | exact fun _ => rfl), (by simpa using q2), (by simpa using q5), (by simpa using q7), (by simp [h8]), (by simp [h9]), (by simpa [h8, h9] using hS)⟩
              · have h2 : L 2 = false := by cases hh : L 2 with | false => rfl | true => (have hq := q2 hh; simp [hi] at hq)
                have h8 : L 8 = false := by cases hh : L 8 with | false => rfl | true => (have hq := q8 hh; simp [hi] at hq)
                have h9 : L 9 = false := by cases hh : L 9 with | false => rfl | true => (have hq := q9 hh; simp [hi] at hq)
                refine wpOp_step rfl (fun K hK => ?_)
                go_simp
                exact hK _ _ ⟨_, _, _, _, _, _, _, _, rfl, (by first | exact p0 | exact fun _ => rfl), (fun _ => rfl), (by simp [h2]), (by first | exact p3 | exact fun _ => rfl), (by first | exact p4 | exact fun _ => rfl), (by first | exact p5 | exact fun _ => rfl), (by first | exact p6 | exact fun _ => rfl), (by first | exact p7 | exact fun _ => rfl), (by simp [h2]), (by simpa using q5), (by simpa using q7), (by simp [h8]), (by simp [h9]), (by simpa [h2, h8, h9] using hS)⟩
              · have h8 : L 8 = false := by cases hh : L 8 with | false => rfl | true => (have hq := q8 hh; simp [hi] at hq)
                have h9 : L 9 = false := by cases hh : L 9 with | false => rfl | true => (have hq := q9 hh; simp [hi] at hq)
                obtain rfl := p1 (by simp [he])
                have f0 : w'.cell? ⟨gx, 1, none⟩ = some (.int .i64 (np : Int)) := by
                  rw [if_neg (by simp [h9]), if_neg (by simp [h8])] at hS
                  exact hS.cell 7 rfl (k := 1) rfl
                refine wpOp_step rfl (fun K hK => ?_)
                go_simp
                exact hK _ _ ⟨_, _, _, _, _, _, _, _, rfl, (by first | exact p0 | exact fun _ => rfl), (by first | exact p1 | exact fun _ => rfl), (fun _ => rfl), (by first | exact p3 | exact fun _ => rfl), (by first | exact p4 | exact fun _ => rfl), (by first | exact p5 | exact fun _ => rfl), (by first | exact p6 | exact fun _ => rfl), (by first | exact p7 | exact fun _ => rfl), (by simp [he]), (by simpa using q5), (by simpa using q7), (by simp [h8]), (by simp [h9]), (by simpa [h8, h9] using hS)⟩
              · have h9 : L 9 = false := by cases hh : L 9 with | false => rfl | true => (have hq := q9 hh; simp [hi] at hq)
                have f0 : w'.cell? ⟨g11, 0, none⟩ = some (.map (some gy)) := by
                  rw [if_neg (by simp [h9])] at hS
                  split at hS
                  · exact hS.cell 2 rfl (k := 0) rfl
                  · exact hS.cell 2 rfl (k := 0) rfl
                refine wpOp_step rfl (fun K hK => ?_)
                go_simp
                exact hK _ _ ⟨_, _, _, _, _, _, _, _, rfl, (by first | exact p0 | exact fun _ => rfl), (by first | exact p1 | exact fun _ => rfl), (by first | exact p2 | exact fun _ => rfl), (fun _ => rfl), (by first | exact p4 | exact fun _ => rfl), (by first | exact p5 | exact fun _ => rfl), (by first | exact p6 | exact fun _ => rfl), (by first | exact p7 | exact fun _ => rfl), (by simpa using q2), (by simpa using q5), (by simpa using q7), (by simpa using q8), (by simp [h9]), (by simpa [h9] using hS)⟩
              · have h5 : L 5 = false := by cases hh : L 5 with | false => rfl | true => (have hq := q5 hh; simp [hi] at hq)
                have h9 : L 9 = false := by cases hh : L 9 with | false => rfl | true => (have hq := q9 hh; simp [hi] at hq)
                refine wpOp_step rfl (fun K hK => ?_)
                go_simp
                exact hK _ _ ⟨_, _, _, _, _, _, _, _, rfl, (by first | exact p0 | exact fun _ => rfl), (by first | exact p1 | exact fun _ => rfl), (by first | exact p2 | exact fun _ => rfl), (by first | exact p3 | exact fun _ => rfl), (fun _ => rfl), (by simp [h5]), (by first | exact p6 | exact fun _ => rfl), (by first | exact p7 | exact fun _ => rfl), (by simpa using q2), (by simp [h5]), (by simpa using q7), (by simpa using q8), (by simp [h9]), (by simpa [h5, h9] using hS)⟩
              · have h9 : L 9 = false := by cases hh : L 9 with | false => rfl | true => (have hq := q9 hh; simp [hi] at hq)
                obtain rfl := p4 (by simp [he])
                have f0 : w'.cell? ⟨gx, 1, none⟩ = some (.int .i64 (np : Int)) := by
                  rw [if_neg (by simp [h9])] at hS
                  split at hS
                  · exact hS.cell 7 rfl (k := 1) rfl
                  · exact hS.cell 7 rfl (k := 1) rfl
                refine wpOp_step rfl (fun K hK => ?_)
                go_simp
                exact hK _ _ ⟨_, _, _, _, _, _, _, _, rfl, (by first | exact p0 | exact fun _ => rfl), (by first | exact p1 | exact fun _ => rfl), (by first | exact p2 | exact fun _ => rfl), (by first | exact p3 | exact fun _ => rfl), (by first | exact p4 | exact fun _ => rfl), (fun _ => rfl), (by first | exact p6 | exact fun _ => rfl), (by first | exact p7 | exact fun _ => rfl), (by simpa using q2), (by simp [he]), (by simpa using q7), (by simpa using q8), (by simp [h9]), (by simpa [h9] using hS)⟩
              · have h7 : L 7 = false := by cases hh : L 7 with | false => rfl | true => (have hq := q7 hh; simp [hi] at hq)
                have h8 : L 8 = false := by cases hh : L 8 with | false => rfl | true => (have hq := q8 hh; simp [hi] at hq)
                have h9 : L 9 = false := by cases hh : L 9 with | false => rfl | true => (have hq := q9 hh; simp [hi] at hq)
                refine wpOp_step rfl (fun K hK => ?_)
                go_simp
                exact hK _ _ ⟨_, _, _, _, _, _, _, _, rfl, (by first | exact p0 | exact fun _ => rfl), (by first | exact p1 | exact fun _ => rfl), (by first | exact p2 | exact fun _ => rfl), (by first | exact p3 | exact fun _ => rfl), (by first | exact p4 | exact fun _ => rfl), (by first | exact p5 | exact fun _ => rfl), (fun _ => rfl), (by simp [h7]), (by simpa using q2), (by simpa using q5), (by simp [h7]), (by simp [h8]), (by simp [h9]), (by simpa [h7, h8, h9] using hS)⟩
              · have h8 : L 8 = false := by cases hh : L 8 with | false => rfl | true => (have hq := q8 hh; simp [hi] at hq)
                have h9 : L 9 = false := by cases hh : L 9 with | false => rfl | true => (have hq := q9 hh; simp [hi] at hq)
                obtain rfl := p6 (by simp [he])
                have f0 : w'.cell? ⟨gx, 2, none⟩ = some (.int .i64 od) := by
                  rw [if_neg (by simp [h9]), if_neg (by simp [h8])] at hS
                  exact hS.cell 7 rfl (k := 2) rfl
                refine wpOp_step rfl (fun K hK => ?_)
                go_simp
                exact hK _ _ ⟨_, _, _, _, _, _, _, _, rfl, (by first | exact p0 | exact fun _ => rfl), (by first | exact p1 | exact fun _ => rfl), (by first | exact p2 | exact fun _ => rfl), (by first | exact p3 | exact fun _ => rfl), (by first | exact p4 | exact fun _ => rfl), (by first | exact p5 | exact fun _ => rfl), (by first | exact p6 | exact fun _ => rfl), (fun _ => rfl), (by simpa using q2), (by simpa using q5), (by simp [he]), (by simp [h8]), (by simp [h9]), (by simpa [h8, h9] using hS)⟩
              · have h9 : L 9 = false := by cases hh : L 9 with | false => rfl | true => (have hq := q9 hh; simp [hi] at hq)
                obtain rfl := p0 (by simp [he])
                obtain rfl := p2 (by simp [he])
                obtain rfl := p7 (by simp [he])
                rw [if_neg (by simp [h9]), if_neg (by simp [hi])] at hS
                obtain ⟨w5, hrun, _, hN⟩ := hS.store 3 rfl kint HPW.out Try.underlying67 HND.out od
                simp only [ienc] at hrun
                refine wpOp_step rfl (fun K hK => ?_)
                go_simp
                exact hK _ _ ⟨_, _, _, _, _, _, _, _, rfl, (by first | exact p0 | exact fun _ => rfl), (by first | exact p1 | exact fun _ => rfl), (by first | exact p2 | exact fun _ => rfl), (by first | exact p3 | exact fun _ => rfl), (by first | exact p4 | exact fun _ => rfl), (by first | exact p5 | exact fun _ => rfl), (by first | exact p6 | exact fun _ => rfl), (by first | exact p7 | exact fun _ => rfl), (by simpa using q2), (by simpa using q5), (by simpa using q7), (by simp [he]), (by simp [h9]), (by rw [if_neg (by simp [h9]), if_pos (by simp)]; exact hN)⟩
              · obtain rfl := p3 (by simp [he])
                obtain rfl := p5 (by simp [he])
                have t8 : L 8 = true := by simp [he]
                rw [if_neg (by simp [hi]), if_pos t8] at hS
                obtain ⟨w5, hrun, _, hN⟩ := hS.store 4 rfl kint HPW.out Try.underlying68 HNY.out true
                simp only [benc] at hrun
                refine wpOp_step rfl (fun K hK => ?_)
                go_simp
                exact hK _ _ ⟨_, _, _, _, _, _, _, _, rfl, (by first | exact p0 | exact fun _ => rfl), (by first | exact p1 | exact fun _ => rfl), (by first | exact p2 | exact fun _ => rfl), (by first | exact p3 | exact fun _ => rfl), (by first | exact p4 | exact fun _ => rfl), (by first | exact p5 | exact fun _ => rfl), (by first | exact p6 | exact fun _ => rfl), (by first | exact p7 | exact fun _ => rfl), (by simpa using q2), (by simpa using q5), (by simpa using q7), (by simpa using q8), (by simp [he]), (by rw [if_pos (by simp)]; exact hN)⟩
            · rintro L ac w' ⟨x119, x120, x121, x122, x123, x124, x125, x126, ha, p0, p1, p2, p3, p4, p5, p6, p7, q2, q5, q7, q8, q9, hS⟩ hall
              have t8 := hall 8 (by decide)
              have t9 := hall 9 (by decide)
              rw [if_pos t9] at hS
              
              obtain rfl := p0 (hall 0 (by decide))
              obtain rfl := p1 (hall 1 (by decide))
              obtain rfl := p2 (hall 2 (by decide))
              obtain rfl := p3 (hall 3 (by decide))
              obtain rfl := p4 (hall 4 (by decide))
              obtain rfl := p5 (hall 5 (by decide))
              obtain rfl := p6 (hall 6 (by decide))
              obtain rfl := p7 (hall 7 (by decide))
              simp only [turn, List.foldl_cons, List.foldl_nil, List.setIfInBounds_toArray, List.set_cons_succ, List.set_cons_zero] at ha
              subst ha
              clear q2 q5 q7 q8 q9  t8 t9
              have H9 := Lib.hid hS
              clear hS
              have HD1 : Hid ((if (dt (np : Int)).isSome then nd else nd + 1) ≤ k + 1) := Lib.hid (by have := HNDK.out; split <;> omega)
              have HY1 : Hid ((if (dy (np : Int)).isSome then ny else ny + 1) ≤ k + 1) := Lib.hid (by have := HNYK.out; split <;> omega)
              have HRT2 := Lib.hid (RW.push (p := ⟨np, od, true⟩) (dt' := mup dt (np : Int) od) (dy' := mup dy (np : Int) true) HRW.out rfl (fun x hx => mup_other _ _ hx) (mup_same _ _ _) (fun x hx => mup_other _ _ hx) (by rw [mup_same]; simp))
              clear HRW HB HND HNY
              go_wp2
              go_roundg (n - (k + 1))
              case measure => omega
              case rel =>
                refine ⟨k + 1, _, Ar, cr, _, _, _, _, _, by omega, rfl, by go_num, HOK2, HBD2, HP2, HRT2, HD1, HY1, ?_⟩
                have K9 := H9.out.pick [0, 1, 2, 3, 4, 5, 6] (by decide) (by simp)
                rw [HF5.out, HNR.out, HRD.out, HS5.out, HST5.out, HU6.out, HNU6.out] at K9
                exact K9
          | @missW np hk0 hn0 ho hl =>
            simp only at hk0 hn0
            subst hk0 hn0
            have hn16 : np < 16 := by have := HGO.out.2.2.2; simp only at this; omega
            have HPW : Hid ((Lit.int .i64 (np : Int)).wf = true) := Lib.hid (WalkArith.wf_i64 (by omega))
            have hou := out_u rfl ho
            have HRW := Lib.hid (HRT.out.out hou)
            have hus : ¬ (u (np : Int)).isSome = true := fun h => by
              obtain ⟨q, hq, e⟩ := (HRT.out.dom _).1 h
              exact hou q hq (by omega)
            have HLEN : Hid ((cs.L ++ [(⟨np, od, true⟩ : Pg)]).length = cs.L.length + 1) := Lib.hid (by rw [List.length_append]; rfl)
            have hlen := H2.out.mapLen 5 rfl Try.underlying67
            have hne : ((cs.L.length : Int) == (sz : Int)) = false := by simp; omega
            have hll : cs.L.length ≤ 16 := Nat.le_trans HOK.out.len H16.out
            have ht : u (np : Int) = none := by simpa using hus
            have l2 := H2.out.look2 5 rfl kint HPW.out Try.underlying67 (iz wb)
            rw [ht] at l2
            simp only [Option.elim, Option.isSome] at l2
            obtain ⟨wc, hrun, _, H3'⟩ := H2.out.store 5 rfl kint HPW.out Try.underlying67 (by simp only [maxLen]; omega) (k : Int)
            rw [if_neg hus] at H3'
            simp only [ienc] at hrun
            obtain ⟨f5, HF5⟩ : ∃ z, Hid (z = cs.f) := ⟨_, Lib.hid rfl⟩
            obtain ⟨nr, HNR⟩ : ∃ z, Hid (z = cs.rd.length) := ⟨_, Lib.hid rfl⟩
            obtain ⟨rd, HRD⟩ : ∃ z, Hid (z = cs.rd) := ⟨_, Lib.hid rfl⟩
            obtain ⟨s5, HS5⟩ : ∃ z, Hid (z = cs.s) := ⟨_, Lib.hid rfl⟩
            obtain ⟨st5, HST5⟩ : ∃ z, Hid (z = cs.st) := ⟨_, Lib.hid rfl⟩
            obtain ⟨u6, HU6⟩ : ∃ z, Hid (z = mup u (np : Int) (k : Int)) := ⟨_, Lib.hid rfl⟩
            obtain ⟨nu6, HNU6⟩ : ∃ z, Hid (z = (cs.L ++ [(⟨np, od, true⟩ : Pg)]).length) := ⟨_, Lib.hid rfl⟩
            have HB : Hid (Sep wA wc [cdI g8 (.slice Ar nr cr) f5 s5 st5, c10 g10 gd, c11 g11 gy, im gd nd dt, bm gy ny dy, im gu nu6 u6, .row 3 1 (.slice Ar nr cr) nr (rd.flatMap icell), opI gx 2 (np : Int) od]) := Lib.hid (by
              rw [HF5.out, HNR.out, HRD.out, HS5.out, HST5.out, HU6.out, HNU6.out, HLEN.out]
              exact H3')
            have o0 := HB.out.cell 7 rfl (k := 0) rfl
            skip
            clear H2 H3' ht hus hou ho hl HRT HOK HBD HLEN hll
            go_upto_region 35 with (fail)
            clear l2 hrun p0 p1 o0 hlen hne
            have HND : Hid (nd < maxLen) := Lib.hid (by have := HNDK.out; simp only [maxLen]; omega)
            have HNY : Hid (ny < maxLen) := Lib.hid (by have := HNYK.out; simp only [maxLen]; omega)
            refine wp_region_inv0 (fun ac0 L ac w' => ∃ x119 x120 x121 x122 x123 x124 x125 x126, ac = turn ac0 [(119, x119), (120, x120), (121, x121), (122, x122), (123, x123), (124, x124), (125, x125), (126, x126)] ∧ (L 0 = true → x119 = .map (some gd)) ∧ (L 1 = true → x120 = .pointer (some ⟨gx, 1, none⟩)) ∧ (L 2 = true → x121 = .int .i64 (np : Int)) ∧ (L 3 = true → x122 = .map (some gy)) ∧ (L 4 = true → x123 = .pointer (some ⟨gx, 1, none⟩)) ∧ (L 5 = true → x124 = .int .i64 (np : Int)) ∧ (L 6 = true → x125 = .pointer (some ⟨gx, 2, none⟩)) ∧ (L 7 = true → x126 = .int .i64 od) ∧ (L 2 = true → L 1 = true) ∧ (L 5 = true → L 4 = true) ∧ (L 7 = true → L 6 = true) ∧ (L 8 = true → L 0 = true ∧ L 1 = true ∧ L 2 = true ∧ L 6 = true ∧ L 7 = true) ∧ (L 9 = true → L 0 = true ∧ L 1 = true ∧ L 2 = true ∧ L 3 = true ∧ L 4 = true ∧ L 5 = true ∧ L 6 = true ∧ L 7 = true ∧ L 8 = true) ∧ (if L 9 = true then (Sep wA w' [cdI g8 (.slice Ar nr cr) f5 s5 st5, c10 g10 gd, c11 g11 gy, im gd (if (dt (np : Int)).isSome then nd else nd + 1) (mup dt (np : Int) od), bm gy (if (dy (np : Int)).isSome then ny else ny + 1) (mup dy (np : Int) true), im gu nu6 u6, .row 3 1 (.slice Ar nr cr) nr (rd.flatMap icell), opI gx 2 (np : Int) od]) else (if L 8 = true then (Sep wA w' [cdI g8 (.slice Ar nr cr) f5 s5 st5, c10 g10 gd, c11 g11 gy, im gd (if (dt (np : Int)).isSome then nd else nd + 1) (mup dt (np : Int) od), bm gy ny dy, im gu nu6 u6, .row 3 1 (.slice Ar nr cr) nr (rd.flatMap icell), opI gx 2 (np : Int) od]) else Sep wA w' [cdI g8 (.slice Ar nr cr) f5 s5 st5, c10 g10 gd, c11 g11 gy, im gd nd dt, bm gy ny dy, im gu nu6 u6, .row 3 1 (.slice Ar nr cr) nr (rd.flatMap icell), opI gx 2 (np : Int) od]))) rfl (by kernel_rfl) ?_ ?_ ?_
            · simp only [turn, List.foldl_cons, List.foldl_nil, List.setIfInBounds_toArray, List.set_cons_succ, List.set_cons_zero]
              exact ⟨_, _, _, _, _, _, _, _, rfl, (fun h => absurd h (by decide)), (fun h => absurd h (by decide)), (fun h => absurd h (by decide)), (fun h => absurd h (by decide)), (fun h => absurd h (by decide)), (fun h => absurd h (by decide)), (fun h => absurd h (by decide)), (fun h => absurd h (by decide)), (fun h => absurd h (by decide)), (fun h => absurd h (by decide)), (fun h => absurd h (by decide)), (fun h => absurd h (by decide)), (fun h => absurd h (by decide)), by simpa using HB.out.drew⟩
            · rintro L ac w' i o ⟨x119, x120, x121, x122, x123, x124, x125, x126, ha, p0, p1, p2, p3, p4, p5, p6, p7, q2, q5, q7, q8, q9, hS⟩ ho hi he
              simp only [turn, List.foldl_cons, List.foldl_nil, List.setIfInBounds_toArray, List.set_cons_succ, List.set_cons_zero] at ha ⊢
              subst ha
              rcases i with _|_|_|_|_|_|_|_|_|_|i
              all_goals cases ho
              all_goals simp [Region.binds] at he
              · have h8 : L 8 = false := by cases hh : L 8 with | false => rfl | true => (have hq := q8 hh; simp [hi] at hq)
                have h9 : L 9 = false := by cases hh : L 9 with | false => rfl | true => (have hq := q9 hh; simp [hi] at hq)
                have f0 : w'.cell? ⟨g10, 0, none⟩ = some (.map (some gd)) := by
                  rw [if_neg (by simp [h9]), if_neg (by simp [h8])] at hS
                  exact hS.cell 1 rfl (k := 0) rfl
                refine wpOp_step rfl (fun K hK => ?_)
                go_simp
                exact hK _ _ ⟨_, _, _, _, _, _, _, _, rfl, (fun _ => rfl), (by first | exact p1 | exact fun _ => rfl), (by first | exact p2 | exact fun _ => rfl), (by first | exact p3 | exact fun _ => rfl), (by first | exact p4 | exact fun _ => rfl), (by first | exact p5 | exact fun _ => rfl), (by first | exact p6 | exact fun _ => rfl), (by first | exact p7 | exact fun _ => rfl), (by simpa using q2), (by simpa using q5), (by simpa using q7), (by simp [h8]), (by simp [h9]), (by simpa [h8, h9] using hS)⟩
              · have h2 : L 2 = false := by cases hh : L 2 with | false => rfl | true => (have hq := q2 hh; simp [hi] at hq)
                have h8 : L 8 = false := by cases hh : L 8 with | false => rfl | true => (have hq := q8 hh; simp [hi] at hq)
                have h9 : L 9 = false := by cases hh : L 9 with | false => rfl | true => (have hq := q9 hh; simp [hi] at hq)
                refine wpOp_step rfl (fun K hK => ?_)
                go_simp
                exact hK _ _ ⟨_, _, _, _, _, _, _, _, rfl, (by first | exact p0 | exact fun _ => rfl), (fun _ => rfl), (by simp [h2]), (by first | exact p3 | exact fun _ => rfl), (by first | exact p4 | exact fun _ => rfl), (by first | exact p5 | exact fun _ => rfl), (by first | exact p6 | exact fun _ => rfl), (by first | exact p7 | exact fun _ => rfl), (by simp [h2]), (by simpa using q5), (by simpa using q7), (by simp [h8]), (by simp [h9]), (by simpa [h2, h8, h9] using hS)⟩
              · have h8 : L 8 = false := by cases hh : L 8 with | false => rfl | true => (have hq := q8 hh; simp [hi] at hq)
                have h9 : L 9 = false := by cases hh : L 9 with | false => rfl | true => (have hq := q9 hh; simp [hi] at hq)
                obtain rfl := p1 (by simp [he])
                have f0 : w'.cell? ⟨gx, 1, none⟩ = some (.int .i64 (np : Int)) := by
                  rw [if_neg (by simp [h9]), if_neg (by simp [h8])] at hS
                  exact hS.cell 7 rfl (k := 1) rfl
                refine wpOp_step rfl (fun K hK => ?_)
                go_simp
                exact hK _ _ ⟨_, _, _, _, _, _, _, _, rfl, (by first | exact p0 | exact fun _ => rfl), (by first | exact p1 | exact fun _ => rfl), (fun _ => rfl), (by first | exact p3 | exact fun _ => rfl), (by first | exact p4 | exact fun _ => rfl), (by first | exact p5 | exact fun _ => rfl), (by first | exact p6 | exact fun _ => rfl), (by first | exact p7 | exact fun _ => rfl), (by simp [he]), (by simpa using q5), (by simpa using q7), (by simp [h8]), (by simp [h9]), (by simpa [h8, h9] using hS)⟩
              · have h9 : L 9 = false := by cases hh : L 9 with | false => rfl | true => (have hq := q9 hh; simp [hi] at hq)
                have f0 : w'.cell? ⟨g11, 0, none⟩ = some (.map (some gy)) := by
                  rw [if_neg (by simp [h9])] at hS
                  split at hS
                  · exact hS.cell 2 rfl (k := 0) rfl
                  · exact hS.cell 2 rfl (k := 0) rfl
                refine wpOp_step rfl (fun K hK => ?_)
                go_simp
                exact hK _ _ ⟨_, _, _, _, _, _, _, _, rfl, (by first | exact p0 | exact fun _ => rfl), (by first | exact p1 | exact fun _ => rfl), (by first | exact p2 | exact fun _ => rfl), (fun _ => rfl), (by first | exact p4 | exact fun _ => rfl), (by first | exact p5 | exact fun _ => rfl), (by first | exact p6 | exact fun _ => rfl), (by first | exact p7 | exact fun _ => rfl), (by simpa using q2), (by simpa using q5), (by simpa using q7), (by simpa using q8), (by simp [h9]), (by simpa [h9] using hS)⟩
              · have h5 : L 5 = false := by cases hh : L 5 with | false => rfl | true => (have hq := q5 hh; simp [hi] at hq)
                have h9 : L 9 = false := by cases hh : L 9 with | false => rfl | true => (have hq := q9 hh; simp [hi] at hq)
                refine wpOp_step rfl (fun K hK => ?_)
                go_simp
                exact hK _ _ ⟨_, _, _, _, _, _, _, _, rfl, (by first | exact p0 | exact fun _ => rfl), (by first | exact p1 | exact fun _ => rfl), (by first | exact p2 | exact fun _ => rfl), (by first | exact p3 | exact fun _ => rfl), (fun _ => rfl), (by simp [h5]), (by first | exact p6 | exact fun _ => rfl), (by first | exact p7 | exact fun _ => rfl), (by simpa using q2), (by simp [h5]), (by simpa using q7), (by simpa using q8), (by simp [h9]), (by simpa [h5, h9] using hS)⟩
              · have h9 : L 9 = false := by cases hh : L 9 with | false => rfl | true => (have hq := q9 hh; simp [hi] at hq)
                obtain rfl := p4 (by simp [he])
                have f0 : w'.cell? ⟨gx, 1, none⟩ = some (.int .i64 (np : Int)) := by
                  rw [if_neg (by simp [h9])] at hS
                  split at hS
                  · exact hS.cell 7 rfl (k := 1) rfl
                  · exact hS.cell 7 rfl (k := 1) rfl
                refine wpOp_step rfl (fun K hK => ?_)
                go_simp
                exact hK _ _ ⟨_, _, _, _, _, _, _, _, rfl, (by first | exact p0 | exact fun _ => rfl), (by first | exact p1 | exact fun _ => rfl), (by first | exact p2 | exact fun _ => rfl), (by first | exact p3 | exact fun _ => rfl), (by first | exact p4 | exact fun _ => rfl), (fun _ => rfl), (by first | exact p6 | exact fun _ => rfl), (by first | exact p7 | exact fun _ => rfl), (by simpa using q2), (by simp [he]), (by simpa using q7), (by simpa using q8), (by simp [h9]), (by simpa [h9] using hS)⟩
              · have h7 : L 7 = false := by cases hh : L 7 with | false => rfl | true => (have hq := q7 hh; simp [hi] at hq)
                have h8 : L 8 = false := by cases hh : L 8 with | false => rfl | true => (have hq := q8 hh; simp [hi] at hq)
                have h9 : L 9 = false := by cases hh : L 9 with | false => rfl | true => (have hq := q9 hh; simp [hi] at hq)
                refine wpOp_step rfl (fun K hK => ?_)
                go_simp
                exact hK _ _ ⟨_, _, _, _, _, _, _, _, rfl, (by first | exact p0 | exact fun _ => rfl), (by first | exact p1 | exact fun _ => rfl), (by first | exact p2 | exact fun _ => rfl), (by first | exact p3 | exact fun _ => rfl), (by first | exact p4 | exact fun _ => rfl), (by first | exact p5 | exact fun _ => rfl), (fun _ => rfl), (by simp [h7]), (by simpa using q2), (by simpa using q5), (by simp [h7]), (by simp [h8]), (by simp [h9]), (by simpa [h7, h8, h9] using hS)⟩
              · have h8 : L 8 = false := by cases hh : L 8 with | false => rfl | true => (have hq := q8 hh; simp [hi] at hq)
                have h9 : L 9 = false := by cases hh : L 9 with | false => rfl | true => (have hq := q9 hh; simp [hi] at hq)
                obtain rfl := p6 (by simp [he])
                have f0 : w'.cell? ⟨gx, 2, none⟩ = some (.int .i64 od) := by
                  rw [if_neg (by simp [h9]), if_neg (by simp [h8])] at hS
                  exact hS.cell 7 rfl (k := 2) rfl
                refine wpOp_step rfl (fun K hK => ?_)
                go_simp
                exact hK _ _ ⟨_, _, _, _, _, _, _, _, rfl, (by first | exact p0 | exact fun _ => rfl), (by first | exact p1 | exact fun _ => rfl), (by first | exact p2 | exact fun _ => rfl), (by first | exact p3 | exact fun _ => rfl), (by first | exact p4 | exact fun _ => rfl), (by first | exact p5 | exact fun _ => rfl), (by first | exact p6 | exact fun _ => rfl), (fun _ => rfl), (by simpa using q2), (by simpa using q5), (by simp [he]), (by simp [h8]), (by simp [h9]), (by simpa [h8, h9] using hS)⟩
              · have h9 : L 9 = false := by cases hh : L 9 with | false => rfl | true => (have hq := q9 hh; simp [hi] at hq)
                obtain rfl := p0 (by simp [he])
                obtain rfl := p2 (by simp [he])
                obtain rfl := p7 (by simp [he])
                rw [if_neg (by simp [h9]), if_neg (by simp [hi])] at hS
                obtain ⟨w5, hrun, _, hN⟩ := hS.store 3 rfl kint HPW.out Try.underlying67 HND.out od
                simp only [ienc] at hrun
                refine wpOp_step rfl (fun K hK => ?_)
                go_simp
                exact hK _ _ ⟨_, _, _, _, _, _, _, _, rfl, (by first | exact p0 | exact fun _ => rfl), (by first | exact p1 | exact fun _ => rfl), (by first | exact p2 | exact fun _ => rfl), (by first | exact p3 | exact fun _ => rfl), (by first | exact p4 | exact fun _ => rfl), (by first | exact p5 | exact fun _ => rfl), (by first | exact p6 | exact fun _ => rfl), (by first | exact p7 | exact fun _ => rfl), (by simpa using q2), (by simpa using q5), (by simpa using q7), (by simp [he]), (by simp [h9]), (by rw [if_neg (by simp [h9]), if_pos (by simp)]; exact hN)⟩
              · obtain rfl := p3 (by simp [he])
                obtain rfl := p5 (by simp [he])
                have t8 : L 8 = true := by simp [he]
                rw [if_neg (by simp [hi]), if_pos t8] at hS
                obtain ⟨w5, hrun, _, hN⟩ := hS.store 4 rfl kint HPW.out Try.underlying68 HNY.out true
                simp only [benc] at hrun
                refine wpOp_step rfl (fun K hK => ?_)
                go_simp
                exact hK _ _ ⟨_, _, _, _, _, _, _, _, rfl, (by first | exact p0 | exact fun _ => rfl), (by first | exact p1 | exact fun _ => rfl), (by first | exact p2 | exact fun _ => rfl), (by first | exact p3 | exact fun _ => rfl), (by first | exact p4 | exact fun _ => rfl), (by first | exact p5 | exact fun _ => rfl), (by first | exact p6 | exact fun _ => rfl), (by first | exact p7 | exact fun _ => rfl), (by simpa using q2), (by simpa using q5), (by simpa using q7), (by simpa using q8), (by simp [he]), (by rw [if_pos (by simp)]; exact hN)⟩
            · rintro L ac w' ⟨x119, x120, x121, x122, x123, x124, x125, x126, ha, p0, p1, p2, p3, p4, p5, p6, p7, q2, q5, q7, q8, q9, hS⟩ hall
              have t8 := hall 8 (by decide)
              have t9 := hall 9 (by decide)
              rw [if_pos t9] at hS
              
              obtain rfl := p0 (hall 0 (by decide))
              obtain rfl := p1 (hall 1 (by decide))
              obtain rfl := p2 (hall 2 (by decide))
              obtain rfl := p3 (hall 3 (by decide))
              obtain rfl := p4 (hall 4 (by decide))
              obtain rfl := p5 (hall 5 (by decide))
              obtain rfl := p6 (hall 6 (by decide))
              obtain rfl := p7 (hall 7 (by decide))
              simp only [turn, List.foldl_cons, List.foldl_nil, List.setIfInBounds_toArray, List.set_cons_succ, List.set_cons_zero] at ha
              subst ha
              clear q2 q5 q7 q8 q9  t8 t9
              have H9 := Lib.hid hS
              clear hS
              have HD1 : Hid ((if (dt (np : Int)).isSome then nd else nd + 1) ≤ k + 1) := Lib.hid (by have := HNDK.out; split <;> omega)
              have HY1 : Hid ((if (dy (np : Int)).isSome then ny else ny + 1) ≤ k + 1) := Lib.hid (by have := HNYK.out; split <;> omega)
              have HRT2 := Lib.hid (RW.push (p := ⟨np, od, true⟩) (dt' := mup dt (np : Int) od) (dy' := mup dy (np : Int) true) HRW.out rfl (fun x hx => mup_other _ _ hx) (mup_same _ _ _) (fun x hx => mup_other _ _ hx) (by rw [mup_same]; simp))
              clear HRW HB HND HNY
              go_wp2
              go_roundg (n - (k + 1))
              case measure => omega
              case rel =>
                refine ⟨k + 1, _, Ar, cr, _, _, _, _, _, by omega, rfl, by go_num, HOK2, HBD2, HP2, HRT2, HD1, HY1, ?_⟩
                have K9 := H9.out.pick [0, 1, 2, 3, 4, 5, 6] (by decide) (by simp)
                rw [HF5.out, HNR.out, HRD.out, HS5.out, HST5.out, HU6.out, HNU6.out] at K9
                exact K9
          | @hitR i p hk0 hi hp =>
            simp only at hk0 hp
            subst hk0 hp
            obtain ⟨np, pd, pwr⟩ := p
            simp only at p0 p1 H2
            have HDT : Hid (dt (np : Int) = some pd) := Lib.hid (HRT.out.dat _ (List.mem_of_getElem? hi))
            have HDY : Hid (dy (np : Int) = some true ↔ pwr = true) := Lib.hid (HRT.out.dirat hi HOK.out.nd)
            have HRL : Hid (cs.rd.length ≤ 5864062014806) := Lib.hid (by have := HBD.out.1; omega)
            have hil := (List.getElem?_eq_some_iff.1 hi).1
            have hn16 : np < 16 := HOK.out.low _ (List.mem_of_getElem? hi)
            have HPW : Hid ((Lit.int .i64 (np : Int)).wf = true) := Lib.hid (WalkArith.wf_i64 (by omega))
            have HRW := Lib.hid (HRT.out.hit hi HOK.out.nd)
            simp only at HRW
            have hus : (u (np : Int)).isSome = true := (HRT.out.dom _).2 ⟨_, List.mem_of_getElem? hi, rfl⟩
            have HLEN : Hid ((cs.L.eraseIdx i ++ [(⟨np, pd, pwr⟩ : Pg)]).length = cs.L.length) := Lib.hid (mk_len (cs := 0) hil _)
            have hll : cs.L.length ≤ 16 := Nat.le_trans HOK.out.len H16.out
            obtain ⟨t, ht⟩ := Option.isSome_iff_exists.1 hus
            have l2 := H2.out.look2 5 rfl kint HPW.out Try.underlying67 (iz wb)
            rw [ht] at l2
            simp only [Option.elim, Option.isSome, ienc] at l2
            obtain ⟨wc, hrun, _, H3'⟩ := H2.out.store 5 rfl kint HPW.out Try.underlying67 (by simp only [maxLen]; omega) (k : Int)
            rw [if_pos hus] at H3'
            simp only [ienc] at hrun
            obtain ⟨f5, HF5⟩ : ∃ z, Hid (z = cs.f) := ⟨_, Lib.hid rfl⟩
            obtain ⟨nr, HNR⟩ : ∃ z, Hid (z = cs.rd.length) := ⟨_, Lib.hid rfl⟩
            obtain ⟨rd, HRD⟩ : ∃ z, Hid (z = cs.rd) := ⟨_, Lib.hid rfl⟩
            obtain ⟨s5, HS5⟩ : ∃ z, Hid (z = cs.s) := ⟨_, Lib.hid rfl⟩
            obtain ⟨st5, HST5⟩ : ∃ z, Hid (z = cs.st) := ⟨_, Lib.hid rfl⟩
            obtain ⟨u6, HU6⟩ : ∃ z, Hid (z = mup u (np : Int) (k : Int)) := ⟨_, Lib.hid rfl⟩
            obtain ⟨nu6, HNU6⟩ : ∃ z, Hid (z = (cs.L.eraseIdx i ++ [(⟨np, pd, pwr⟩ : Pg)]).length) := ⟨_, Lib.hid rfl⟩
            have HB : Hid (Sep wA wc [cdI g8 (.slice Ar nr cr) f5 s5 st5, c10 g10 gd, c11 g11 gy, im gd nd dt, bm gy ny dy, im gu nu6 u6, .row 3 1 (.slice Ar nr cr) nr (rd.flatMap icell), opI gx 1 (np : Int) od]) := Lib.hid (by
              rw [HF5.out, HNR.out, HRD.out, HS5.out, HST5.out, HU6.out, HNU6.out, HLEN.out]
              exact H3')
            have o0 := HB.out.cell 7 rfl (k := 0) rfl
            skip
            clear H2 H3' ht hus hil hi HRT HOK HBD HLEN hll
            go_upto_region 39 with (fail)
            clear l2 hrun p0 p1 o0
            obtain ⟨xd, hxd⟩ : ∃ xd, xd = pd := ⟨_, rfl⟩
            rw [← hxd] at HDT
            have HXD := Lib.hid hxd
            clear hxd
            have HD1 : Hid (nd ≤ k + 1) := Lib.hid (by have := HNDK.out; omega)
            have HY1 : Hid (ny ≤ k + 1) := Lib.hid (by have := HNYK.out; omega)
            have HRT2 := Lib.hid (RW.push (p := ⟨np, pd, pwr⟩) (dt' := dt) (dy' := dy) HRW.out rfl (fun x hx => rfl) (by rw [HDT.out, HXD.out]) (fun x hx => rfl) HDY.out)
            generalize wc = wd at HB ⊢
            clear HRW
            rw [← HXD.out] at HOK2 HBD2 HP2 HRT2
            have l3 := HB.out.look 3 rfl kint HPW.out Try.underlying67 (iz wd)
            rw [HDT.out] at l3
            simp only [Option.elim, ienc] at l3
            have o1 := HB.out.cell 7 rfl (k := 1) rfl
            have o2 := HB.out.cell 1 rfl (k := 0) rfl
            have o3 := HB.out.cell 0 rfl (k := 0) rfl
            have hnr : nr ≤ 5864062014806 := by rw [HNR.out]; exact HRL.out
            have hnew := Lib.hid (Rd.of_own (own_new wd 3 #[.int .i64 xd] 1 1 rfl (by simp [maxLen]) (Nat.le_refl _)))
            go_upto_region 40 with (at_builtin; refine wpList_append_sep (HB.out.alloc _) 6 rfl (.tmp 142) (.tmp 147) 23 rfl 3 ti (.int .i64 0) 1 8 Try.underlying23 HTI.out.1 HTI.out.2.1 HTI.out.2.2.1 HTI.out.2.2.2 rfl (by omega) _ nr _ rfl rfl _ _ 1 1 _ rfl hnew.out (by simp [Value.oneCell']) (by simp only [maxLen]; omega) (by omega) ?_; intro A6 c6 w6 hc6 hs6 H6'; have H6 := Lib.hid H6'; clear H6'; have c2 := H6.out.cell 0 rfl (k := 0) rfl; have u2 := H6.out.froz 0 rfl (k := 0))
            have H9 := Lib.hid (H6.out.set 0 rfl (k := 0) (.slice A6 (nr + 1) c6))
            clear c2 u2 H6 o1 o2 o3 l3 HB
            generalize w6.setCell ⟨g8, 0, none⟩ (.slice A6 (nr + 1) c6) = w7 at H9 ⊢
            go_wp2
            go_roundg (n - (k + 1))
            case measure => omega
            case rel =>
              refine ⟨k + 1, _, A6, c6, _, _, _, _, _, by omega, rfl, by go_num, HOK2, HBD2, HP2, HRT2, HD1, HY1, ?_⟩
              have K9 := H9.out.pick [0, 1, 2, 3, 4, 5, 6] (by decide) (by simp)
              simp only [rdI, List.length_append, List.length_singleton, List.flatMap_append]
              rw [HF5.out, HNR.out, HRD.out, HS5.out, HST5.out, HU6.out, HNU6.out] at K9
              simp only [List.length_append, List.length_singleton] at K9
              exact K9
          | @missR np x hk0 hn0 ho hl hx =>
            simp only at hk0 hn0
            subst hk0 hn0
            obtain ⟨xd, hxd⟩ : ∃ xd, xd = x := ⟨_, rfl⟩
            subst hxd
            have HXD0 := Lib.hid hx
            have HDY : Hid (dy (np : Int) = some true ↔ false = true) := Lib.hid ⟨fun h => by
              obtain ⟨q, hq, e, _⟩ := (HRT.out.dir _).1 h
              exact absurd e.symm (ho q hq), fun h => absurd h (by decide)⟩
            have HRL : Hid (cs.rd.length ≤ 5864062014806) := Lib.hid (by have := HBD.out.1; omega)
            have HFL : Hid (cs.f < 140737488355328) := Lib.hid (by have := HBD.out.2.1; omega)
            clear hx
            have hn16 : np < 16 := by have := HGO.out.2.2.2; simp only at this; omega
            have HPW : Hid ((Lit.int .i64 (np : Int)).wf = true) := Lib.hid (WalkArith.wf_i64 (by omega))
            have hou := out_u rfl ho
            have HRW := Lib.hid (HRT.out.out hou)
            have hus : ¬ (u (np : Int)).isSome = true := fun h => by
              obtain ⟨q, hq, e⟩ := (HRT.out.dom _).1 h
              exact hou q hq (by omega)
            have HLEN : Hid ((cs.L ++ [(⟨np, xd, false⟩ : Pg)]).length = cs.L.length + 1) := Lib.hid (by rw [List.length_append]; rfl)
            have hlen := H2.out.mapLen 5 rfl Try.underlying67
            have hne : ((cs.L.length : Int) == (sz : Int)) = false := by simp; omega
            have hll : cs.L.length ≤ 16 := Nat.le_trans HOK.out.len H16.out
            have ht : u (np : Int) = none := by simpa using hus
            have l2 := H2.out.look2 5 rfl kint HPW.out Try.underlying67 (iz wb)
            rw [ht] at l2
            simp only [Option.elim, Option.isSome] at l2
            obtain ⟨wc, hrun, _, H3'⟩ := H2.out.store 5 rfl kint HPW.out Try.underlying67 (by simp only [maxLen]; omega) (k : Int)
            rw [if_neg hus] at H3'
            simp only [ienc] at hrun
            obtain ⟨f5, HF5⟩ : ∃ z, Hid (z = cs.f) := ⟨_, Lib.hid rfl⟩
            obtain ⟨nr, HNR⟩ : ∃ z, Hid (z = cs.rd.length) := ⟨_, Lib.hid rfl⟩
            obtain ⟨rd, HRD⟩ : ∃ z, Hid (z = cs.rd) := ⟨_, Lib.hid rfl⟩
            obtain ⟨s5, HS5⟩ : ∃ z, Hid (z = cs.s) := ⟨_, Lib.hid rfl⟩
            obtain ⟨st5, HST5⟩ : ∃ z, Hid (z = cs.st) := ⟨_, Lib.hid rfl⟩
            obtain ⟨u6, HU6⟩ : ∃ z, Hid (z = mup u (np : Int) (k : Int)) := ⟨_, Lib.hid rfl⟩
            obtain ⟨nu6, HNU6⟩ : ∃ z, Hid (z = (cs.L ++ [(⟨np, xd, false⟩ : Pg)]).length) := ⟨_, Lib.hid rfl⟩
            have HB : Hid (Sep wA wc [cdI g8 (.slice Ar nr cr) f5 s5 st5, c10 g10 gd, c11 g11 gy, im gd nd dt, bm gy ny dy, im gu nu6 u6, .row 3 1 (.slice Ar nr cr) nr (rd.flatMap icell), opI gx 1 (np : Int) od]) := Lib.hid (by
              rw [HF5.out, HNR.out, HRD.out, HS5.out, HST5.out, HU6.out, HNU6.out, HLEN.out]
              exact H3')
            have o0 := HB.out.cell 7 rfl (k := 0) rfl
            skip
            clear H2 H3' ht hus hou ho hl HRT HOK HBD HLEN hll
            go_upto_region 37 with (fail)
            clear l2 hrun p0 p1 o0 hlen hne
            have HXD : Hid (st5[np]? = some xd) := Lib.hid (by rw [HST5.out]; exact HXD0.out)
            have HND : Hid (nd < maxLen) := Lib.hid (by have := HNDK.out; simp only [maxLen]; omega)
            have m0 : (0 : Int) ≤ (np : Int) := by omega
            have m1 : (np : Int) < 16 := by omega
            have v1 := fun z : LaterOf wc => z.cell (HB.out.cell 7 rfl (k := 1) rfl)
            have v2 := fun z : LaterOf wc => z.cell (HB.out.cell 1 rfl (k := 0) rfl)
            have v3 := fun z : LaterOf wc => z.cell (HB.out.cell 0 rfl (cdc_st HXD.out))
            (refine wp_region_tail 8 (by kernel_rfl) (by kernel_rfl) ?_; simp only [List.take_succ_cons, List.take_zero, List.drop_succ_cons, List.drop_zero]; repeat (go_big_quiet_step (fail)))
            clear v1 v2 v3
            refine wpQuiet_nil ?_; intro xw hw'; obtain ⟨xq, hw''⟩ := hw'; obtain ⟨xw0, xh⟩ := xq; change xw = xw0 at hw''; subst hw''
            have H5 := Lib.hid (HB.out.later xh)
            clear HB xh
            obtain ⟨we, hrun, _, H6'⟩ := H5.out.store 3 rfl kint HPW.out Try.underlying67 HND.out xd
            simp only [ienc] at hrun
            have H6 := Lib.hid H6'
            clear H6' H5
            go_upto_region 38 with (fail)
            clear hrun
            have c0 := H6.out.cell 0 rfl (k := 1) rfl
            have u0 := H6.out.froz 0 rfl (k := 1)
            obtain ⟨f6, HF6⟩ : ∃ z, Hid (z = f5 + 1) := ⟨_, Lib.hid rfl⟩
            have hf5 : f5 < 140737488355328 := by rw [HF5.out]; exact HFL.out
            have k1 : (f5 : Int) + 1 = (f6 : Int) := by have := HF6.out; omega
            have k2 : (0 : Int) ≤ (f5 : Int) := by omega
            have k3 : (f6 : Int) < 9223372036854775807 := by have := HF6.out; omega
            have H7 := Lib.hid (H6.out.set 0 rfl (k := 1) (.int .i64 (f6 : Int)))
            clear H6
            go_upto_region 39 with (fail)
            clear c0 u0 k1 k2 k3 hf5
            generalize we.setCell ⟨g8, 1, none⟩ (.int .i64 (f6 : Int)) = wd at H7 ⊢
            have HF5b : Hid (f6 = cs.f + 1) := Lib.hid (by rw [HF6.out, HF5.out])
            clear HF5 HF6
            have HF5 := Lib.hid HF5b.out
            clear HF5b
            obtain ⟨dt2, HDT2⟩ : ∃ d, Hid (d = mup dt (np : Int) xd) := ⟨_, Lib.hid rfl⟩
            obtain ⟨nd2, HND2⟩ : ∃ d, Hid (d = if (dt (np : Int)).isSome then nd else nd + 1) := ⟨_, Lib.hid rfl⟩
            have HB : Hid (Sep wA wd [cdI g8 (.slice Ar nr cr) f6 s5 st5, c10 g10 gd, c11 g11 gy, im gd nd2 dt2, bm gy ny dy, im gu nu6 u6, .row 3 1 (.slice Ar nr cr) nr (rd.flatMap icell), opI gx 1 (np : Int) od]) := Lib.hid (by rw [HDT2.out, HND2.out]; exact H7.out)
            have HDT : Hid (dt2 (np : Int) = some xd) := Lib.hid (by rw [HDT2.out]; exact mup_same _ _ _)
            have HD1 : Hid (nd2 ≤ k + 1) := Lib.hid (by have := HNDK.out; rw [HND2.out]; split <;> omega)
            have HY1 : Hid (ny ≤ k + 1) := Lib.hid (by have := HNYK.out; omega)
            have HRT2 := Lib.hid (RW.push (p := ⟨np, xd, false⟩) (dt' := dt2) (dy' := dy) HRW.out rfl (fun x hx => by rw [HDT2.out]; exact mup_other _ _ hx) HDT.out (fun x hx => rfl) HDY.out)
            clear HRW H7 HND m0 m1
            have l3 := HB.out.look 3 rfl kint HPW.out Try.underlying67 (iz wd)
            rw [HDT.out] at l3
            simp only [Option.elim, ienc] at l3
            have o1 := HB.out.cell 7 rfl (k := 1) rfl
            have o2 := HB.out.cell 1 rfl (k := 0) rfl
            have o3 := HB.out.cell 0 rfl (k := 0) rfl
            have hnr : nr ≤ 5864062014806 := by rw [HNR.out]; exact HRL.out
            have hnew := Lib.hid (Rd.of_own (own_new wd 3 #[.int .i64 xd] 1 1 rfl (by simp [maxLen]) (Nat.le_refl _)))
            go_upto_region 40 with (at_builtin; refine wpList_append_sep (HB.out.alloc _) 6 rfl (.tmp 142) (.tmp 147) 23 rfl 3 ti (.int .i64 0) 1 8 Try.underlying23 HTI.out.1 HTI.out.2.1 HTI.out.2.2.1 HTI.out.2.2.2 rfl (by omega) _ nr _ rfl rfl _ _ 1 1 _ rfl hnew.out (by simp [Value.oneCell']) (by simp only [maxLen]; omega) (by omega) ?_; intro A6 c6 w6 hc6 hs6 H6'; have H6 := Lib.hid H6'; clear H6'; have c2 := H6.out.cell 0 rfl (k := 0) rfl; have u2 := H6.out.froz 0 rfl (k := 0))
            have H9 := Lib.hid (H6.out.set 0 rfl (k := 0) (.slice A6 (nr + 1) c6))
            clear c2 u2 H6 o1 o2 o3 l3 HB
            generalize w6.setCell ⟨g8, 0, none⟩ (.slice A6 (nr + 1) c6) = w7 at H9 ⊢
            go_wp2
            go_roundg (n - (k + 1))
            case measure => omega
            case rel =>
              refine ⟨k + 1, _, A6, c6, _, _, _, _, _, by omega, rfl, by go_num, HOK2, HBD2, HP2, HRT2, HD1, HY1, ?_⟩
              have K9 := H9.out.pick [0, 1, 2, 3, 4, 5, 6] (by decide) (by simp)
              simp only [rdI, List.length_append, List.length_singleton, List.flatMap_append]
              rw [HF5.out, HNR.out, HRD.out, HS5.out, HST5.out, HU6.out, HNU6.out] at K9
              simp only [List.length_append, List.length_singleton] at K9
              exact K9
          | flush hk0 =>
            simp only at hk0
            subst hk0
            have eg := enters_of Try.func23 (by kernel_rfl) rfl
            have HB := Lib.hid (H2.out.pick [0, 1, 2, 3, 4, 5, 6] (by decide) (by simp))
            have HR0 : Hid (RT (cs.L.map (fcl 0)) k u dt dy) := Lib.hid (by rw [fcl_zero]; exact HRT.out)
            have HB0 : Hid (Sep wA wb [cdI g8 (.slice Ar cs.rd.length cr) cs.f (cs.s + fN 0 cs.L) (fS 0 cs.L cs.st), c10 g10 gd, c11 g11 gy, im gd nd dt, bm gy ny dy, im gu cs.L.length u, rdI Ar cs.rd.length cr cs.rd]) := Lib.hid (by
              rw [fN_zero, fS_zero]
              exact HB.out)
            clear HB H2 p1
            go_wp2
            clear p0
            go_loopg [68] 16 (fun q i wr => ∃ (j ny2 : Nat) (dy2 : Int → Option Bool), j ≤ 16 ∧ q = 16 - j ∧ i = .int .i64 (j : Int) ∧ Hid (RT (cs.L.map (fcl j)) k u dt dy2) ∧ Hid (ny2 ≤ k) ∧
              Sep wA wr [cdI g8 (.slice Ar cs.rd.length cr) cs.f (cs.s + fN j cs.L) (fS j cs.L cs.st), c10 g10 gd, c11 g11 gy, im gd nd dt, bm gy ny2 dy2, im gu cs.L.length u, rdI Ar cs.rd.length cr cs.rd])
            case atStart => exact ⟨0, ny, dy, Nat.zero_le _, rfl, rfl, HR0, HNYK, HB0.out⟩
            case round =>
              clear HR0 HB0
              obtain ⟨j, ny2, dy2, hj, rfl, rfl, HRJ, HNJ, hs⟩ := hrel
              have HS := Lib.hid hs
              clear hs
              by_cases hj16 : j < 16
              · have j0 : (j : Int) < 16 := by omega
                by_cases hex : ∃ p ∈ cs.L, p.n = j ∧ p.w = true
                · obtain ⟨p, hp, hpj, hpw⟩ := hex
                  have hpm : p ∈ cs.L.map (fcl j) := List.mem_map.2 ⟨p, hp, fcl_own hpj⟩
                  have cS := Lib.hid (store_yes g8 g10 g11 gd gy nd ny2 cs.f (cs.s + fN j cs.L) j p.d _ _ dt dy2 _ wA wr HS.out hj16 ((HRJ.out.dir _).2 ⟨p, hpm, by rw [hpj], hpw⟩) (by have := HRJ.out.dat p hpm; rw [hpj] at this; exact this) (by rw [fS_len]; exact HOK.out.st) (by have := fN_le j cs.L; have := HOK.out.len; have := H16.out; have := HBD.out.2.2; omega) (by have := HNJ.out; simp only [maxLen]; omega))
                  have HRN : Hid (RT (cs.L.map (fcl (j + 1))) k u dt (mup dy2 (j : Int) false)) := Lib.hid (HRT.out.mapf (fcl (j + 1)) (fcl_n _) (fcl_d _) (dir_yes HRJ.out.dir))
                  have HE1 : Hid (fN (j + 1) cs.L = fN j cs.L + 1 ∧ fS (j + 1) cs.L cs.st = (fS j cs.L cs.st).set j p.d) := Lib.hid ⟨fN_yes _ HOK.out.nd hp hpj hpw, fS_yes _ _ HOK.out.nd hp hpj hpw⟩
                  clear hp hpj hpw hpm
                  go_wp2_with fail
                  refine cS.out.mono ?_; rintro en w5 ⟨rfl, K5⟩
                  have H5 := Lib.hid K5
                  clear K5 cS HS
                  go_wp2
                  go_roundg (16 - (j + 1))
                  case measure => omega
                  case rel => exact ⟨j + 1, ny2, _, by omega, rfl, by go_num, HRN, HNJ, by rw [HE1.out.1, HE1.out.2, ← Nat.add_assoc]; exact H5.out⟩
                · have hno : ∀ p ∈ cs.L, p.n = j → p.w = false := fun p hp e => by
                    cases hw : p.w with
                    | false => rfl
                    | true => exact absurd ⟨p, hp, e, hw⟩ hex
                  have cS := Lib.hid (store_no g8 g10 g11 gd gy nd ny2 cs.f (cs.s + fN j cs.L) j _ _ dt dy2 _ wA wr HS.out hj16 (fun e => by
                    obtain ⟨q, hq, e1, e2⟩ := (HRJ.out.dir _).1 e
                    obtain ⟨p, hp, rfl⟩ := List.mem_map.1 hq
                    rw [fcl_n] at e1
                    have e3 : p.n = j := by omega
                    rw [fcl_own e3, hno p hp e3] at e2
                    cases e2))
                  have HRN : Hid (RT (cs.L.map (fcl (j + 1))) k u dt dy2) := Lib.hid (by rw [fcl_no hno]; exact HRJ.out)
                  have HE1 : Hid (fN (j + 1) cs.L = fN j cs.L ∧ fS (j + 1) cs.L cs.st = fS j cs.L cs.st) := Lib.hid ⟨fN_no _ hno, fS_no _ _ hno⟩
                  clear hno hex
                  go_wp2_with fail
                  refine cS.out.mono ?_; rintro en w5 ⟨rfl, K5⟩
                  have H5 := Lib.hid K5
                  clear K5 cS HS
                  go_wp2
                  go_roundg (16 - (j + 1))
                  case measure => omega
                  case rel => exact ⟨j + 1, ny2, _, by omega, rfl, by go_num, HRN, HNJ, by rw [HE1.out.1, HE1.out.2]; exact H5.out⟩
              · obtain rfl : j = 16 := by omega
                have HRN : Hid (RT (cs.L.map Pg.clean) (k + 1) u dt dy2) := Lib.hid (by have := HRJ.out.tick; rw [fcl_all HOK.out.low] at this; exact this)
                have HD1 : Hid (nd ≤ k + 1) := Lib.hid (by have := HNDK.out; omega)
                have HY1 : Hid (ny2 ≤ k + 1) := Lib.hid (by have := HNJ.out; omega)
                go_wp2
                go_roundg (n - (k + 1))
                case measure => omega
                case rel =>
                  refine ⟨k + 1, _, Ar, cr, _, _, _, _, _, by omega, rfl, by go_num, HOK2, HBD2, HP2, HRN, HD1, HY1, ?_⟩
                  have K9 := HS.out
                  rw [fN_all _ HOK.out.low, fS_all _ _ HOK.out.low] at K9
                  simp only [List.length_map]
                  exact K9
          | @fullW np q tl hk0 hn0 ho hl hq =>
            simp only at hk0 hn0
            subst hk0 hn0
            have hn16 : np < 16 := by have := HGO.out.2.2.2; simp only at this; omega
            have HPW : Hid ((Lit.int .i64 (np : Int)).wf = true) := Lib.hid (WalkArith.wf_i64 (by omega))
            have hou := out_u rfl ho
            rw [hq] at hou
            have HLQ := Lib.hid hq
            have HRQ : Hid (RT (q :: tl) k u dt dy) := Lib.hid (by rw [← hq]; exact HRT.out)
            have HNDQ : Hid (((q :: tl).map Pg.n).Nodup) := Lib.hid (by rw [← hq]; exact HOK.out.nd)
            have HQ16 : Hid (q.n < 16) := Lib.hid (HOK.out.low q (by rw [hq]; simp))
            have HOU := Lib.hid hou
            have hus : u (np : Int) = none := by
              cases h : u (np : Int) with
              | none => rfl
              | some z =>
                obtain ⟨y, hy, e⟩ := (HRQ.out.dom (np : Int)).1 (by rw [h]; rfl)
                exact absurd (show y.n = np by omega) (hou y hy)
            have hlen := H2.out.mapLen 5 rfl Try.underlying67
            rw [hl] at hlen
            have hne : ((sz : Int) == (sz : Int)) = true := by simp
            have l2 := H2.out.look2 5 rfl kint HPW.out Try.underlying67 (iz wb)
            rw [hus] at l2
            simp only [Option.elim, Option.isSome] at l2
            have HLL : Hid (cs.L.length = tl.length + 1) := Lib.hid (by rw [hq]; rfl)
            have HU0 := Lib.hid hus
            go_upto_region 25 with (fail)
            clear l2 hlen hne p0
            obtain ⟨es, clock, M, H1⟩ := H2.out.mapOpen 5 rfl
            have HM := Lib.hid M
            obtain ⟨hrun, H3', todo0, R0, htl, hmem⟩ := H1.rangeStart 5 rfl M kint Try.underlying67
            have HR0 := Lib.hid R0
            have HH3 := Lib.hid H3'
            have HO0 : Hid (OldInv (q :: tl) u todo0 (-1)) := Lib.hid (.inl ⟨rfl, fun x hx => (hmem _).2 ((HRQ.out.dom _).2 ⟨x, hx, rfl⟩)⟩)
            clear M H1 H2 H3' R0 hmem hus hou ho hq hl
            go_wp2
            clear hrun
            generalize wb.alloc (.mapIter (some gu) clock #[] clock) = wo at HH3 ⊢
            generalize wb.heap.size = r1 at HH3 ⊢
            go_loopg [18] todo0.length (fun g v18 wl => ∃ (todo : List Int) (seen : Array Nat) (c0 : Nat) (old : Int), g = todo.length ∧ v18 = .int .i64 old ∧ Hid (Rg (Value.int .i64) es clock clock seen c0 todo) ∧ Hid (OldInv (q :: tl) u todo old) ∧
              Sep wA wl [cdI g8 (.slice Ar cs.rd.length cr) cs.f cs.s cs.st, c10 g10 gd, c11 g11 gy, im gd nd dt, bm gy ny dy, .obj gu (.map es clock), rdI Ar cs.rd.length cr cs.rd, opI gx 2 (np : Int) od, .obj r1 (.mapIter (some gu) clock seen c0)])
            case atStart => exact ⟨todo0, #[], clock, -1, rfl, rfl, HR0, HO0, HH3.out⟩
            case round =>
              clear HH3 HO0 HR0 htl
              obtain ⟨todo, seen, c0, old, rfl, rfl, HRG, HOI, hs⟩ := hrel
              have HS := Lib.hid hs
              clear hs
              rcases HS.out.rangeNext 5 8 (by decide) rfl rfl HM.out kint HRG.out 0 with ⟨rfl, hrun⟩ | ⟨x, a, w2, seen', hx, hxa, hrun, hsz, H2', HRG2, hen⟩
              rotate_left
              · have HRU := Lib.hid hxa
                have hnd := HRG.out.nd
                have HPX := (HRQ.out.dom x).1 (by rw [hxa]; rfl)
                have HMS := Lib.hid (show (todo.erase x).length < todo.length by
                  rw [List.length_erase_of_mem hx]
                  have := List.length_pos_of_mem hx
                  omega)
                rcases HOI.out with ⟨rfl, hall⟩ | ⟨p9, hp9, rfl, t9, ht9, hmin⟩
                · have HON : Hid (OldInv (q :: tl) u (todo.erase x) x) := Lib.hid (old_first hnd hall HPX hxa)
                  have H9 := Lib.hid H2'
                  clear HOI hall HPX hnd hxa hx HS HRG
                  go_wp2
                  go_roundg ((todo.erase x).length)
                  case measure => exact HMS.out
                  case rel => exact ⟨todo.erase x, seen', clock, x, rfl, rfl, HRG2, HON, H9.out⟩
                · have l9 := HM.out.look kint (x := (p9.n : Int)) (WalkArith.wf_i64 (by have := HOK.out.low p9 (by rw [HLQ.out]; exact hp9); omega)) Try.underlying67 (H2'.all 5 _ rfl) (iz w2)
                  rw [ht9] at l9
                  simp only [Option.elim, ienc] at l9 hrun hen
                  have k9 : ¬ (p9.n : Int) < 0 := by omega
                  have H9 := Lib.hid H2'
                  by_cases hlt9 : a < t9
                  · have HON : Hid (OldInv (q :: tl) u (todo.erase x) x) := Lib.hid (old_less hnd HPX hxa (Int.le_of_lt hlt9) hmin)
                    clear HOI hmin HPX hnd hxa hx HS HRG H2' ht9 hp9
                    go_wp2
                    go_roundg ((todo.erase x).length)
                    case measure => exact HMS.out
                    case rel => exact ⟨todo.erase x, seen', clock, x, rfl, rfl, HRG2, HON, H9.out⟩
                  · have HON : Hid (OldInv (q :: tl) u (todo.erase x) (p9.n : Int)) := Lib.hid (old_keep hnd hp9 ht9 hxa (by omega) hmin)
                    clear HOI hmin HPX hnd hxa hx HS HRG H2' ht9 hp9
                    go_wp2
                    go_roundg ((todo.erase x).length)
                    case measure => exact HMS.out
                    case rel => exact ⟨todo.erase x, seen', clock, (p9.n : Int), rfl, rfl, HRG2, HON, H9.out⟩
              have hold : old = (q.n : Int) := HOI.out.last HRQ.out
              subst hold
              have HB0 := Lib.hid ((HS.out.mapShut 5 rfl HM.out).pick [0, 1, 2, 3, 4, 5, 6, 7] (by decide) (by simp))
              have eg := enters_of Try.func23 (by kernel_rfl) rfl
              obtain ⟨dy2, cS, HDYO, HDYQ⟩ : ∃ dy2, Hid (Calls Try.prog 23 #[.int .i64 (q.n : Int), .pointer (some ⟨g11, 0, none⟩), .pointer (some ⟨g10, 0, none⟩), .pointer (some ⟨g8, 0, none⟩)] wr (fun e w' => e = .returned (.tuple #[]) ∧ Sep wA w' [cdI g8 (.slice Ar cs.rd.length cr) cs.f (cs.s + cnt1 q) (put1 q cs.st), c10 g10 gd, c11 g11 gy, im gd nd dt, bm gy ny dy2, im gu cs.L.length u, rdI Ar cs.rd.length cr cs.rd, opI gx 2 (np : Int) od])) ∧ Hid (∀ x : Int, x ≠ (q.n : Int) → dy2 x = dy x) ∧ Hid (dy2 (q.n : Int) ≠ some true) := by
                have hdq := HRQ.out.dirat (i := 0) rfl HNDQ.out
                cases hqw : q.w with
                | true =>
                  refine ⟨mup dy (q.n : Int) false, Lib.hid ?_, Lib.hid (fun x hx => mup_other _ _ hx), Lib.hid (by rw [mup_same]; simp)⟩
                  have e1 : cnt1 q = 1 := by unfold cnt1; rw [if_pos hqw]
                  have e2 : put1 q cs.st = cs.st.set q.n q.d := by unfold put1; rw [if_pos hqw]
                  rw [e1, e2]
                  exact store_yes g8 g10 g11 gd gy nd ny cs.f cs.s q.n q.d _ _ dt dy _ wA wr HB0.out HQ16.out (hdq.2 hqw) (HRQ.out.dat q (by simp)) HOK.out.st (by have := HBD.out.2.2; omega) (by have := HNYK.out; simp only [maxLen]; omega)
                | false =>
                  have hno : dy (q.n : Int) ≠ some true := fun e => by rw [hdq.1 e] at hqw; cases hqw
                  refine ⟨dy, Lib.hid ?_, Lib.hid (fun x hx => rfl), Lib.hid hno⟩
                  have e1 : cnt1 q = 0 := by unfold cnt1; rw [hqw]; rfl
                  have e2 : put1 q cs.st = cs.st := by unfold put1; rw [hqw]; rfl
                  rw [e1, e2]
                  exact store_no g8 g10 g11 gd gy nd ny cs.f cs.s q.n _ _ dt dy _ wA wr HB0.out HQ16.out hno
              have HRW := Lib.hid (HRQ.out.full (n := np) HNDQ.out HOU.out HDYO.out HDYQ.out)
              have HDYN : Hid (dy2 (np : Int) ≠ some true) := Lib.hid (by
                have hqn := HOU.out q (by simp)
                rw [HDYO.out _ (by omega)]
                intro h
                obtain ⟨y, hy, e, _⟩ := (HRQ.out.dir _).1 h
                exact absurd (show y.n = np by omega) (HOU.out y hy))
              clear HB0 HS
              go_wp2_with fail
              refine cS.out.mono ?_; rintro en w5 ⟨rfl, K5⟩
              obtain ⟨w6, hdel, _, H6'⟩ := K5.drop 5 rfl kint (x := (q.n : Int)) (WalkArith.wf_i64 (by have := HQ16.out; omega)) Try.underlying67
              have hqs : (u (q.n : Int)).isSome = true := (HRQ.out.dom _).2 ⟨q, by simp, rfl⟩
              rw [if_pos hqs, HLL.out, Nat.add_sub_cancel] at H6'
              have H6 := Lib.hid H6'
              have hmn : mdel u (q.n : Int) (np : Int) = none := by
                rw [mdel_other _ (by have := HOU.out q (by simp); omega)]
                exact HU0.out
              have o1 := K5.cell 7 rfl (k := 1) rfl
              have p1 := H6.out.cell 7 rfl (k := 1) rfl
              have hll : tl.length ≤ 16 := by have := HOK.out.len; have := H16.out; have := HLL.out; omega
              obtain ⟨wc, hrun2, _, H3'⟩ := H6.out.store 5 rfl kint HPW.out Try.underlying67 (by simp only [maxLen]; omega) (k : Int)
              rw [hmn, if_neg (by simp)] at H3'
              simp only [ienc] at hrun2
              generalize dy2 = dy at *
              obtain ⟨f5, HF5⟩ : ∃ z, Hid (z = cs.f) := ⟨_, Lib.hid rfl⟩
              obtain ⟨nr, HNR⟩ : ∃ z, Hid (z = cs.rd.length) := ⟨_, Lib.hid rfl⟩
              obtain ⟨rd, HRD⟩ : ∃ z, Hid (z = cs.rd) := ⟨_, Lib.hid rfl⟩
              obtain ⟨s5, HS5⟩ : ∃ z, Hid (z = cs.s + cnt1 q) := ⟨_, Lib.hid rfl⟩
              obtain ⟨st5, HST5⟩ : ∃ z, Hid (z = put1 q cs.st) := ⟨_, Lib.hid rfl⟩
              obtain ⟨u6, HU6⟩ : ∃ z, Hid (z = mup (mdel u (q.n : Int)) (np : Int) (k : Int)) := ⟨_, Lib.hid rfl⟩
              obtain ⟨nu6, HNU6⟩ : ∃ z, Hid (z = (tl ++ [(⟨np, od, true⟩ : Pg)]).length) := ⟨_, Lib.hid rfl⟩
              have HB : Hid (Sep wA wc [cdI g8 (.slice Ar nr cr) f5 s5 st5, c10 g10 gd, c11 g11 gy, im gd nd dt, bm gy ny dy, im gu nu6 u6, .row 3 1 (.slice Ar nr cr) nr (rd.flatMap icell), opI gx 2 (np : Int) od]) := Lib.hid (by
                rw [HF5.out, HNR.out, HRD.out, HS5.out, HST5.out, HU6.out, HNU6.out, List.length_append]
                exact H3')
              have o0 := HB.out.cell 7 rfl (k := 0) rfl
              clear H6 H6' K5 H3' hmn hqs hll o1 cS HRQ HOK HBD HRT HOI HRG
              go_upto_region 35 with (fail)
              clear hrun hrun2 hdel p1 o0
              have HND : Hid (nd < maxLen) := Lib.hid (by have := HNDK.out; simp only [maxLen]; omega)
              have HNY : Hid (ny < maxLen) := Lib.hid (by have := HNYK.out; simp only [maxLen]; omega)
              refine wp_region_inv0 (fun ac0 L ac w' => ∃ x119 x120 x121 x122 x123 x124 x125 x126, ac = turn ac0 [(119, x119), (120, x120), (121, x121), (122, x122), (123, x123), (124, x124), (125, x125), (126, x126)] ∧ (L 0 = true → x119 = .map (some gd)) ∧ (L 1 = true → x120 = .pointer (some ⟨gx, 1, none⟩)) ∧ (L 2 = true → x121 = .int .i64 (np : Int)) ∧ (L 3 = true → x122 = .map (some gy)) ∧ (L 4 = true → x123 = .pointer (some ⟨gx, 1, none⟩)) ∧ (L 5 = true → x124 = .int .i64 (np : Int)) ∧ (L 6 = true → x125 = .pointer (some ⟨gx, 2, none⟩)) ∧ (L 7 = true → x126 = .int .i64 od) ∧ (L 2 = true → L 1 = true) ∧ (L 5 = true → L 4 = true) ∧ (L 7 = true → L 6 = true) ∧ (L 8 = true → L 0 = true ∧ L 1 = true ∧ L 2 = true ∧ L 6 = true ∧ L 7 = true) ∧ (L 9 = true → L 0 = true ∧ L 1 = true ∧ L 2 = true ∧ L 3 = true ∧ L 4 = true ∧ L 5 = true ∧ L 6 = true ∧ L 7 = true ∧ L 8 = true) ∧ (if L 9 = true then (Sep wA w' [cdI g8 (.slice Ar nr cr) f5 s5 st5, c10 g10 gd, c11 g11 gy, im gd (if (dt (np : Int)).isSome then nd else nd + 1) (mup dt (np : Int) od), bm gy (if (dy (np : Int)).isSome then ny else ny + 1) (mup dy (np : Int) true), im gu nu6 u6, .row 3 1 (.slice Ar nr cr) nr (rd.flatMap icell), opI gx 2 (np : Int) od]) else (if L 8 = true then (Sep wA w' [cdI g8 (.slice Ar nr cr) f5 s5 st5, c10 g10 gd, c11 g11 gy, im gd (if (dt (np : Int)).isSome then nd else nd + 1) (mup dt (np : Int) od), bm gy ny dy, im gu nu6 u6, .row 3 1 (.slice Ar nr cr) nr (rd.flatMap icell), opI gx 2 (np : Int) od]) else Sep wA w' [cdI g8 (.slice Ar nr cr) f5 s5 st5, c10 g10 gd, c11 g11 gy, im gd nd dt, bm gy ny dy, im gu nu6 u6, .row 3 1 (.slice Ar nr cr) nr (rd.flatMap icell), opI gx 2 (np : Int) od]))) rfl (by kernel_rfl) ?_ ?_ ?_
              · simp only [turn, List.foldl_cons, List.foldl_nil, List.setIfInBounds_toArray, List.set_cons_succ, List.set_cons_zero]
                exact ⟨_, _, _, _, _, _, _, _, rfl, (fun h => absurd h (by decide)), (fun h => absurd h (by decide)), (fun h => absurd h (by decide)), (fun h => absurd h (by decide)), (fun h => absurd h (by decide)), (fun h => absurd h (by decide)), (fun h => absurd h (by decide)), (fun h => absurd h (by decide)), (fun h => absurd h (by decide)), (fun h => absurd h (by decide)), (fun h => absurd h (by decide)), (fun h => absurd h (by decide)), (fun h => absurd h (by decide)), by simpa using HB.out.drew⟩
              · rintro L ac w' i o ⟨x119, x120, x121, x122, x123, x124, x125, x126, ha, p0, p1, p2, p3, p4, p5, p6, p7, q2, q5, q7, q8, q9, hS⟩ ho hi he
                simp only [turn, List.foldl_cons, List.foldl_nil, List.setIfInBounds_toArray, List.set_cons_succ, List.set_cons_zero] at ha ⊢
                subst ha
                rcases i with _|_|_|_|_|_|_|_|_|_|i
                all_goals cases ho
                all_goals simp [Region.binds] at he
                · have h8 : L 8 = false := by cases hh : L 8 with | false => rfl | true => (have hq := q8 hh; simp [hi] at hq)
                  have h9 : L 9 = false := by cases hh : L 9 with | false => rfl | true => (have hq := q9 hh; simp [hi] at hq)
                  have f0 : w'.cell? ⟨g10, 0, none⟩ = some (.map (some gd)) := by
                    rw [if_neg (by simp [h9]), if_neg (by simp [h8])] at hS
                    exact hS.cell 1 rfl (k := 0) rfl
                  refine wpOp_step rfl (fun K hK => ?_)
                  go_simp
                  exact hK _ _ ⟨_, _, _, _, _, _, _, _, rfl, (fun _ => rfl), (by first | exact p1 | exact fun _ => rfl), (by first | exact p2 | exact fun _ => rfl), (by first | exact p3 | exact fun _ => rfl), (by first | exact p4 | exact fun _ => rfl), (by first | exact p5 | exact fun _ => rfl), (by first | exact p6 | exact fun _ => rfl), (by first | exact p7 | exact fun _ => rfl), (by simpa using q2), (by simpa using q5), (by simpa using q7), (by simp [h8]), (by simp [h9]), (by simpa [h8, h9] using hS)⟩
                · have h2 : L 2 = false := by cases hh : L 2 with | false => rfl | true => (have hq := q2 hh; simp [hi] at hq)
                  have h8 : L 8 = false := by cases hh : L 8 with | false => rfl | true => (have hq := q8 hh; simp [hi] at hq)
                  have h9 : L 9 = false := by cases hh : L 9 with | false => rfl | true => (have hq := q9 hh; simp [hi] at hq)
                  refine wpOp_step rfl (fun K hK => ?_)
                  go_simp
                  exact hK _ _ ⟨_, _, _, _, _, _, _, _, rfl, (by first | exact p0 | exact fun _ => rfl), (fun _ => rfl), (by simp [h2]), (by first | exact p3 | exact fun _ => rfl), (by first | exact p4 | exact fun _ => rfl), (by first | exact p5 | exact fun _ => rfl), (by first | exact p6 | exact fun _ => rfl), (by first | exact p7 | exact fun _ => rfl), (by simp [h2]), (by simpa using q5), (by simpa using q7), (by simp [h8]), (by simp [h9]), (by simpa [h2, h8, h9] using hS)⟩
                · have h8 : L 8 = false := by cases hh : L 8 with | false => rfl | true => (have hq := q8 hh; simp [hi] at hq)
                  have h9 : L 9 = false := by cases hh : L 9 with | false => rfl | true => (have hq := q9 hh; simp [hi] at hq)
                  obtain rfl := p1 (by simp [he])
                  have f0 : w'.cell? ⟨gx, 1, none⟩ = some (.int .i64 (np : Int)) := by
                    rw [if_neg (by simp [h9]), if_neg (by simp [h8])] at hS
                    exact hS.cell 7 rfl (k := 1) rfl
                  refine wpOp_step rfl (fun K hK => ?_)
                  go_simp
                  exact hK _ _ ⟨_, _, _, _, _, _, _, _, rfl, (by first | exact p0 | exact fun _ => rfl), (by first | exact p1 | exact fun _ => rfl), (fun _ => rfl), (by first | exact p3 | exact fun _ => rfl), (by first | exact p4 | exact fun _ => rfl), (by first | exact p5 | exact fun _ => rfl), (by first | exact p6 | exact fun _ => rfl), (by first | exact p7 | exact fun _ => rfl), (by simp [he]), (by simpa using q5), (by simpa using q7), (by simp [h8]), (by simp [h9]), (by simpa [h8, h9] using hS)⟩
                · have h9 : L 9 = false := by cases hh : L 9 with | false => rfl | true => (have hq := q9 hh; simp [hi] at hq)
                  have f0 : w'.cell? ⟨g11, 0, none⟩ = some (.map (some gy)) := by
                    rw [if_neg (by simp [h9])] at hS
                    split at hS
                    · exact hS.cell 2 rfl (k := 0) rfl
                    · exact hS.cell 2 rfl (k := 0) rfl
                  refine wpOp_step rfl (fun K hK => ?_)
                  go_simp
                  exact hK _ _ ⟨_, _, _, _, _, _, _, _, rfl, (by first | exact p0 | exact fun _ => rfl), (by first | exact p1 | exact fun _ => rfl), (by first | exact p2 | exact fun _ => rfl), (fun _ => rfl), (by first | exact p4 | exact fun _ => rfl), (by first | exact p5 | exact fun _ => rfl), (by first | exact p6 | exact fun _ => rfl), (by first | exact p7 | exact fun _ => rfl), (by simpa using q2), (by simpa using q5), (by simpa using q7), (by simpa using q8), (by simp [h9]), (by simpa [h9] using hS)⟩
                · have h5 : L 5 = false := by cases hh : L 5 with | false => rfl | true => (have hq := q5 hh; simp [hi] at hq)
                  have h9 : L 9 = false := by cases hh : L 9 with | false => rfl | true => (have hq := q9 hh; simp [hi] at hq)
                  refine wpOp_step rfl (fun K hK => ?_)
                  go_simp
                  exact hK _ _ ⟨_, _, _, _, _, _, _, _, rfl, (by first | exact p0 | exact fun _ => rfl), (by first | exact p1 | exact fun _ => rfl), (by first | exact p2 | exact fun _ => rfl), (by first | exact p3 | exact fun _ => rfl), (fun _ => rfl), (by simp [h5]), (by first | exact p6 | exact fun _ => rfl), (by first | exact p7 | exact fun _ => rfl), (by simpa using q2), (by simp [h5]), (by simpa using q7), (by simpa using q8), (by simp [h9]), (by simpa [h5, h9] using hS)⟩
                · have h9 : L 9 = false := by cases hh : L 9 with | false => rfl | true => (have hq := q9 hh; simp [hi] at hq)
                  obtain rfl := p4 (by simp [he])
                  have f0 : w'.cell? ⟨gx, 1, none⟩ = some (.int .i64 (np : Int)) := by
                    rw [if_neg (by simp [h9])] at hS
                    split at hS
                    · exact hS.cell 7 rfl (k := 1) rfl
                    · exact hS.cell 7 rfl (k := 1) rfl
                  refine wpOp_step rfl (fun K hK => ?_)
                  go_simp
                  exact hK _ _ ⟨_, _, _, _, _, _, _, _, rfl, (by first | exact p0 | exact fun _ => rfl), (by first | exact p1 | exact fun _ => rfl), (by first | exact p2 | exact fun _ => rfl), (by first | exact p3 | exact fun _ => rfl), (by first | exact p4 | exact fun _ => rfl), (fun _ => rfl), (by first | exact p6 | exact fun _ => rfl), (by first | exact p7 | exact fun _ => rfl), (by simpa using q2), (by simp [he]), (by simpa using q7), (by simpa using q8), (by simp [h9]), (by simpa [h9] using hS)⟩
                · have h7 : L 7 = false := by cases hh : L 7 with | false => rfl | true => (have hq := q7 hh; simp [hi] at hq)
                  have h8 : L 8 = false := by cases hh : L 8 with | false => rfl | true => (have hq := q8 hh; simp [hi] at hq)
                  have h9 : L 9 = false := by cases hh : L 9 with | false => rfl | true => (have hq := q9 hh; simp [hi] at hq)
                  refine wpOp_step rfl (fun K hK => ?_)
                  go_simp
                  exact hK _ _ ⟨_, _, _, _, _, _, _, _, rfl, (by first | exact p0 | exact fun _ => rfl), (by first | exact p1 | exact fun _ => rfl), (by first | exact p2 | exact fun _ => rfl), (by first | exact p3 | exact fun _ => rfl), (by first | exact p4 | exact fun _ => rfl), (by first | exact p5 | exact fun _ => rfl), (fun _ => rfl), (by simp [h7]), (by simpa using q2), (by simpa using q5), (by simp [h7]), (by simp [h8]), (by simp [h9]), (by simpa [h7, h8, h9] using hS)⟩
                · have h8 : L 8 = false := by cases hh : L 8 with | false => rfl | true => (have hq := q8 hh; simp [hi] at hq)
                  have h9 : L 9 = false := by cases hh : L 9 with | false => rfl | true => (have hq := q9 hh; simp [hi] at hq)
                  obtain rfl := p6 (by simp [he])
                  have f0 : w'.cell? ⟨gx, 2, none⟩ = some (.int .i64 od) := by
                    rw [if_neg (by simp [h9]), if_neg (by simp [h8])] at hS
                    exact hS.cell 7 rfl (k := 2) rfl
                  refine wpOp_step rfl (fun K hK => ?_)
                  go_simp
                  exact hK _ _ ⟨_, _, _, _, _, _, _, _, rfl, (by first | exact p0 | exact fun _ => rfl), (by first | exact p1 | exact fun _ => rfl), (by first | exact p2 | exact fun _ => rfl), (by first | exact p3 | exact fun _ => rfl), (by first | exact p4 | exact fun _ => rfl), (by first | exact p5 | exact fun _ => rfl), (by first | exact p6 | exact fun _ => rfl), (fun _ => rfl), (by simpa using q2), (by simpa using q5), (by simp [he]), (by simp [h8]), (by simp [h9]), (by simpa [h8, h9] using hS)⟩
                · have h9 : L 9 = false := by cases hh : L 9 with | false => rfl | true => (have hq := q9 hh; simp [hi] at hq)
                  obtain rfl := p0 (by simp [he])
                  obtain rfl := p2 (by simp [he])
                  obtain rfl := p7 (by simp [he])
                  rw [if_neg (by simp [h9]), if_neg (by simp [hi])] at hS
                  obtain ⟨w5, hrun, _, hN⟩ := hS.store 3 rfl kint HPW.out Try.underlying67 HND.out od
                  simp only [ienc] at hrun
                  refine wpOp_step rfl (fun K hK => ?_)
                  go_simp
                  exact hK _ _ ⟨_, _, _, _, _, _, _, _, rfl, (by first | exact p0 | exact fun _ => rfl), (by first | exact p1 | exact fun _ => rfl), (by first | exact p2 | exact fun _ => rfl), (by first | exact p3 | exact fun _ => rfl), (by first | exact p4 | exact fun _ => rfl), (by first | exact p5 | exact fun _ => rfl), (by first | exact p6 | exact fun _ => rfl), (by first | exact p7 | exact fun _ => rfl), (by simpa using q2), (by simpa using q5), (by simpa using q7), (by simp [he]), (by simp [h9]), (by rw [if_neg (by simp [h9]), if_pos (by simp)]; exact hN)⟩
                · obtain rfl := p3 (by simp [he])
                  obtain rfl := p5 (by simp [he])
                  have t8 : L 8 = true := by simp [he]
                  rw [if_neg (by simp [hi]), if_pos t8] at hS
                  obtain ⟨w5, hrun, _, hN⟩ := hS.store 4 rfl kint HPW.out Try.underlying68 HNY.out true
                  simp only [benc] at hrun
                  refine wpOp_step rfl (fun K hK => ?_)
                  go_simp
                  exact hK _ _ ⟨_, _, _, _, _, _, _, _, rfl, (by first | exact p0 | exact fun _ => rfl), (by first | exact p1 | exact fun _ => rfl), (by first | exact p2 | exact fun _ => rfl), (by first | exact p3 | exact fun _ => rfl), (by first | exact p4 | exact fun _ => rfl), (by first | exact p5 | exact fun _ => rfl), (by first | exact p6 | exact fun _ => rfl), (by first | exact p7 | exact fun _ => rfl), (by simpa using q2), (by simpa using q5), (by simpa using q7), (by simpa using q8), (by simp [he]), (by rw [if_pos (by simp)]; exact hN)⟩
              · rintro L ac w' ⟨x119, x120, x121, x122, x123, x124, x125, x126, ha, p0, p1, p2, p3, p4, p5, p6, p7, q2, q5, q7, q8, q9, hS⟩ hall
                have t8 := hall 8 (by decide)
                have t9 := hall 9 (by decide)
                rw [if_pos t9] at hS
                
                obtain rfl := p0 (hall 0 (by decide))
                obtain rfl := p1 (hall 1 (by decide))
                obtain rfl := p2 (hall 2 (by decide))
                obtain rfl := p3 (hall 3 (by decide))
                obtain rfl := p4 (hall 4 (by decide))
                obtain rfl := p5 (hall 5 (by decide))
                obtain rfl := p6 (hall 6 (by decide))
                obtain rfl := p7 (hall 7 (by decide))
                simp only [turn, List.foldl_cons, List.foldl_nil, List.setIfInBounds_toArray, List.set_cons_succ, List.set_cons_zero] at ha
                subst ha
                clear q2 q5 q7 q8 q9  t8 t9
                have H9 := Lib.hid hS
                clear hS
                have HD1 : Hid ((if (dt (np : Int)).isSome then nd else nd + 1) ≤ k + 1) := Lib.hid (by have := HNDK.out; split <;> omega)
                have HY1 : Hid ((if (dy (np : Int)).isSome then ny else ny + 1) ≤ k + 1) := Lib.hid (by have := HNYK.out; split <;> omega)
                have HRT2 := Lib.hid (RW.push (p := ⟨np, od, true⟩) (dt' := mup dt (np : Int) od) (dy' := mup dy (np : Int) true) HRW.out rfl (fun x hx => mup_other _ _ hx) (mup_same _ _ _) (fun x hx => mup_other _ _ hx) (by rw [mup_same]; simp))
                clear HRW HB HND HNY
                go_wp2
                go_roundg (n - (k + 1))
                case measure => omega
                case rel =>
                  refine ⟨k + 1, _, Ar, cr, _, _, _, _, _, by omega, rfl, by go_num, HOK2, HBD2, HP2, HRT2, HD1, HY1, ?_⟩
                  have K9 := H9.out.pick [0, 1, 2, 3, 4, 5, 6] (by decide) (by simp)
                  rw [HF5.out, HNR.out, HRD.out, HS5.out, HST5.out, HU6.out, HNU6.out] at K9
                  exact K9
          | @fullR np x0 q tl hk0 hn0 ho hl hq hx =>
            simp only at hk0 hn0
            subst hk0 hn0
            obtain ⟨xd, hxd⟩ : ∃ xd, xd = x0 := ⟨_, rfl⟩
            subst hxd
            have HXD0 := Lib.hid hx
            have HRL : Hid (cs.rd.length ≤ 5864062014806) := Lib.hid (by have := HBD.out.1; omega)
            have HFL : Hid (cs.f < 140737488355328) := Lib.hid (by have := HBD.out.2.1; omega)
            clear hx
            have hn16 : np < 16 := by have := HGO.out.2.2.2; simp only at this; omega
            have HPW : Hid ((Lit.int .i64 (np : Int)).wf = true) := Lib.hid (WalkArith.wf_i64 (by omega))
            have hou := out_u rfl ho
            rw [hq] at hou
            have HLQ := Lib.hid hq
            have HRQ : Hid (RT (q :: tl) k u dt dy) := Lib.hid (by rw [← hq]; exact HRT.out)
            have HNDQ : Hid (((q :: tl).map Pg.n).Nodup) := Lib.hid (by rw [← hq]; exact HOK.out.nd)
            have HQ16 : Hid (q.n < 16) := Lib.hid (HOK.out.low q (by rw [hq]; simp))
            have HOU := Lib.hid hou
            have hus : u (np : Int) = none := by
              cases h : u (np : Int) with
              | none => rfl
              | some z =>
                obtain ⟨y, hy, e⟩ := (HRQ.out.dom (np : Int)).1 (by rw [h]; rfl)
                exact absurd (show y.n = np by omega) (hou y hy)
            have hlen := H2.out.mapLen 5 rfl Try.underlying67
            rw [hl] at hlen
            have hne : ((sz : Int) == (sz : Int)) = true := by simp
            have l2 := H2.out.look2 5 rfl kint HPW.out Try.underlying67 (iz wb)
            rw [hus] at l2
            simp only [Option.elim, Option.isSome] at l2
            have HLL : Hid (cs.L.length = tl.length + 1) := Lib.hid (by rw [hq]; rfl)
            have HU0 := Lib.hid hus
            go_upto_region 25 with (fail)
            clear l2 hlen hne p0
            obtain ⟨es, clock, M, H1⟩ := H2.out.mapOpen 5 rfl
            have HM := Lib.hid M
            obtain ⟨hrun, H3', todo0, R0, htl, hmem⟩ := H1.rangeStart 5 rfl M kint Try.underlying67
            have HR0 := Lib.hid R0
            have HH3 := Lib.hid H3'
            have HO0 : Hid (OldInv (q :: tl) u todo0 (-1)) := Lib.hid (.inl ⟨rfl, fun x hx => (hmem _).2 ((HRQ.out.dom _).2 ⟨x, hx, rfl⟩)⟩)
            clear M H1 H2 H3' R0 hmem hus hou ho hq hl
            go_wp2
            clear hrun
            generalize wb.alloc (.mapIter (some gu) clock #[] clock) = wo at HH3 ⊢
            generalize wb.heap.size = r1 at HH3 ⊢
            go_loopg [18] todo0.length (fun g v18 wl => ∃ (todo : List Int) (seen : Array Nat) (c0 : Nat) (old : Int), g = todo.length ∧ v18 = .int .i64 old ∧ Hid (Rg (Value.int .i64) es clock clock seen c0 todo) ∧ Hid (OldInv (q :: tl) u todo old) ∧
              Sep wA wl [cdI g8 (.slice Ar cs.rd.length cr) cs.f cs.s cs.st, c10 g10 gd, c11 g11 gy, im gd nd dt, bm gy ny dy, .obj gu (.map es clock), rdI Ar cs.rd.length cr cs.rd, opI gx 1 (np : Int) od, .obj r1 (.mapIter (some gu) clock seen c0)])
            case atStart => exact ⟨todo0, #[], clock, -1, rfl, rfl, HR0, HO0, HH3.out⟩
            case round =>
              clear HH3 HO0 HR0 htl
              obtain ⟨todo, seen, c0, old, rfl, rfl, HRG, HOI, hs⟩ := hrel
              have HS := Lib.hid hs
              clear hs
              rcases HS.out.rangeNext 5 8 (by decide) rfl rfl HM.out kint HRG.out 0 with ⟨rfl, hrun⟩ | ⟨x, a, w2, seen', hx, hxa, hrun, hsz, H2', HRG2, hen⟩
              rotate_left
              · have HRU := Lib.hid hxa
                have hnd := HRG.out.nd
                have HPX := (HRQ.out.dom x).1 (by rw [hxa]; rfl)
                have HMS := Lib.hid (show (todo.erase x).length < todo.length by
                  rw [List.length_erase_of_mem hx]
                  have := List.length_pos_of_mem hx
                  omega)
                rcases HOI.out with ⟨rfl, hall⟩ | ⟨p9, hp9, rfl, t9, ht9, hmin⟩
                · have HON : Hid (OldInv (q :: tl) u (todo.erase x) x) := Lib.hid (old_first hnd hall HPX hxa)
                  have H9 := Lib.hid H2'
                  clear HOI hall HPX hnd hxa hx HS HRG
                  go_wp2
                  go_roundg ((todo.erase x).length)
                  case measure => exact HMS.out
                  case rel => exact ⟨todo.erase x, seen', clock, x, rfl, rfl, HRG2, HON, H9.out⟩
                · have l9 := HM.out.look kint (x := (p9.n : Int)) (WalkArith.wf_i64 (by have := HOK.out.low p9 (by rw [HLQ.out]; exact hp9); omega)) Try.underlying67 (H2'.all 5 _ rfl) (iz w2)
                  rw [ht9] at l9
                  simp only [Option.elim, ienc] at l9 hrun hen
                  have k9 : ¬ (p9.n : Int) < 0 := by omega
                  have H9 := Lib.hid H2'
                  by_cases hlt9 : a < t9
                  · have HON : Hid (OldInv (q :: tl) u (todo.erase x) x) := Lib.hid (old_less hnd HPX hxa (Int.le_of_lt hlt9) hmin)
                    clear HOI hmin HPX hnd hxa hx HS HRG H2' ht9 hp9
                    go_wp2
                    go_roundg ((todo.erase x).length)
                    case measure => exact HMS.out
                    case rel => exact ⟨todo.erase x, seen', clock, x, rfl, rfl, HRG2, HON, H9.out⟩
                  · have HON : Hid (OldInv (q :: tl) u (todo.erase x) (p9.n : Int)) := Lib.hid (old_keep hnd hp9 ht9 hxa (by omega) hmin)
                    clear HOI hmin HPX hnd hxa hx HS HRG H2' ht9 hp9
                    go_wp2
                    go_roundg ((todo.erase x).length)
                    case measure => exact HMS.out
                    case rel => exact ⟨todo.erase x, seen', clock, (p9.n : Int), rfl, rfl, HRG2, HON, H9.out⟩
              have hold : old = (q.n : Int) := HOI.out.last HRQ.out
              subst hold
              have HB0 := Lib.hid ((HS.out.mapShut 5 rfl HM.out).pick [0, 1, 2, 3, 4, 5, 6, 7] (by decide) (by simp))
              have eg := enters_of Try.func23 (by kernel_rfl) rfl
              obtain ⟨dy2, cS, HDYO, HDYQ⟩ : ∃ dy2, Hid (Calls Try.prog 23 #[.int .i64 (q.n : Int), .pointer (some ⟨g11, 0, none⟩), .pointer (some ⟨g10, 0, none⟩), .pointer (some ⟨g8, 0, none⟩)] wr (fun e w' => e = .returned (.tuple #[]) ∧ Sep wA w' [cdI g8 (.slice Ar cs.rd.length cr) cs.f (cs.s + cnt1 q) (put1 q cs.st), c10 g10 gd, c11 g11 gy, im gd nd dt, bm gy ny dy2, im gu cs.L.length u, rdI Ar cs.rd.length cr cs.rd, opI gx 1 (np : Int) od])) ∧ Hid (∀ x : Int, x ≠ (q.n : Int) → dy2 x = dy x) ∧ Hid (dy2 (q.n : Int) ≠ some true) := by
                have hdq := HRQ.out.dirat (i := 0) rfl HNDQ.out
                cases hqw : q.w with
                | true =>
                  refine ⟨mup dy (q.n : Int) false, Lib.hid ?_, Lib.hid (fun x hx => mup_other _ _ hx), Lib.hid (by rw [mup_same]; simp)⟩
                  have e1 : cnt1 q = 1 := by unfold cnt1; rw [if_pos hqw]
                  have e2 : put1 q cs.st = cs.st.set q.n q.d := by unfold put1; rw [if_pos hqw]
                  rw [e1, e2]
                  exact store_yes g8 g10 g11 gd gy nd ny cs.f cs.s q.n q.d _ _ dt dy _ wA wr HB0.out HQ16.out (hdq.2 hqw) (HRQ.out.dat q (by simp)) HOK.out.st (by have := HBD.out.2.2; omega) (by have := HNYK.out; simp only [maxLen]; omega)
                | false =>
                  have hno : dy (q.n : Int) ≠ some true := fun e => by rw [hdq.1 e] at hqw; cases hqw
                  refine ⟨dy, Lib.hid ?_, Lib.hid (fun x hx => rfl), Lib.hid hno⟩
                  have e1 : cnt1 q = 0 := by unfold cnt1; rw [hqw]; rfl
                  have e2 : put1 q cs.st = cs.st := by unfold put1; rw [hqw]; rfl
                  rw [e1, e2]
                  exact store_no g8 g10 g11 gd gy nd ny cs.f cs.s q.n _ _ dt dy _ wA wr HB0.out HQ16.out hno
              have HRW := Lib.hid (HRQ.out.full (n := np) HNDQ.out HOU.out HDYO.out HDYQ.out)
              have HDYN : Hid (dy2 (np : Int) ≠ some true) := Lib.hid (by
                have hqn := HOU.out q (by simp)
                rw [HDYO.out _ (by omega)]
                intro h
                obtain ⟨y, hy, e, _⟩ := (HRQ.out.dir _).1 h
                exact absurd (show y.n = np by omega) (HOU.out y hy))
              clear HB0 HS
              go_wp2_with fail
              refine cS.out.mono ?_; rintro en w5 ⟨rfl, K5⟩
              obtain ⟨w6, hdel, _, H6'⟩ := K5.drop 5 rfl kint (x := (q.n : Int)) (WalkArith.wf_i64 (by have := HQ16.out; omega)) Try.underlying67
              have hqs : (u (q.n : Int)).isSome = true := (HRQ.out.dom _).2 ⟨q, by simp, rfl⟩
              rw [if_pos hqs, HLL.out, Nat.add_sub_cancel] at H6'
              have H6 := Lib.hid H6'
              have hmn : mdel u (q.n : Int) (np : Int) = none := by
                rw [mdel_other _ (by have := HOU.out q (by simp); omega)]
                exact HU0.out
              have o1 := K5.cell 7 rfl (k := 1) rfl
              have p1 := H6.out.cell 7 rfl (k := 1) rfl
              have hll : tl.length ≤ 16 := by have := HOK.out.len; have := H16.out; have := HLL.out; omega
              obtain ⟨wc, hrun2, _, H3'⟩ := H6.out.store 5 rfl kint HPW.out Try.underlying67 (by simp only [maxLen]; omega) (k : Int)
              rw [hmn, if_neg (by simp)] at H3'
              simp only [ienc] at hrun2
              generalize dy2 = dy at *
              obtain ⟨f5, HF5⟩ : ∃ z, Hid (z = cs.f) := ⟨_, Lib.hid rfl⟩
              obtain ⟨nr, HNR⟩ : ∃ z, Hid (z = cs.rd.length) := ⟨_, Lib.hid rfl⟩
              obtain ⟨rd, HRD⟩ : ∃ z, Hid (z = cs.rd) := ⟨_, Lib.hid rfl⟩
              obtain ⟨s5, HS5⟩ : ∃ z, Hid (z = cs.s + cnt1 q) := ⟨_, Lib.hid rfl⟩
              obtain ⟨st5, HST5⟩ : ∃ z, Hid (z = put1 q cs.st) := ⟨_, Lib.hid rfl⟩
              obtain ⟨u6, HU6⟩ : ∃ z, Hid (z = mup (mdel u (q.n : Int)) (np : Int) (k : Int)) := ⟨_, Lib.hid rfl⟩
              obtain ⟨nu6, HNU6⟩ : ∃ z, Hid (z = (tl ++ [(⟨np, xd, false⟩ : Pg)]).length) := ⟨_, Lib.hid rfl⟩
              have HB : Hid (Sep wA wc [cdI g8 (.slice Ar nr cr) f5 s5 st5, c10 g10 gd, c11 g11 gy, im gd nd dt, bm gy ny dy, im gu nu6 u6, .row 3 1 (.slice Ar nr cr) nr (rd.flatMap icell), opI gx 1 (np : Int) od]) := Lib.hid (by
                rw [HF5.out, HNR.out, HRD.out, HS5.out, HST5.out, HU6.out, HNU6.out, List.length_append]
                exact H3')
              have o0 := HB.out.cell 7 rfl (k := 0) rfl
              clear H6 H6' K5 H3' hmn hqs hll o1 cS HRQ HOK HBD HRT HOI HRG
              go_upto_region 37 with (fail)
              clear hrun hrun2 hdel p1 o0
              have HXD : Hid (st5[np]? = some xd) := Lib.hid (by rw [HST5.out]; exact HXD0.out)
              have HDY : Hid (dy (np : Int) = some true ↔ false = true) := Lib.hid ⟨fun h => absurd h HDYN.out, fun h => absurd h (by decide)⟩
              have HND : Hid (nd < maxLen) := Lib.hid (by have := HNDK.out; simp only [maxLen]; omega)
              have m0 : (0 : Int) ≤ (np : Int) := by omega
              have m1 : (np : Int) < 16 := by omega
              have v1 := fun z : LaterOf wc => z.cell (HB.out.cell 7 rfl (k := 1) rfl)
              have v2 := fun z : LaterOf wc => z.cell (HB.out.cell 1 rfl (k := 0) rfl)
              have v3 := fun z : LaterOf wc => z.cell (HB.out.cell 0 rfl (cdc_st HXD.out))
              (refine wp_region_tail 8 (by kernel_rfl) (by kernel_rfl) ?_; simp only [List.take_succ_cons, List.take_zero, List.drop_succ_cons, List.drop_zero]; repeat (go_big_quiet_step (fail)))
              clear v1 v2 v3
              refine wpQuiet_nil ?_; intro xw hw'; obtain ⟨xq, hw''⟩ := hw'; obtain ⟨xw0, xh⟩ := xq; change xw = xw0 at hw''; subst hw''
              have H5 := Lib.hid (HB.out.later xh)
              clear HB xh
              obtain ⟨we, hrun, _, H6'⟩ := H5.out.store 3 rfl kint HPW.out Try.underlying67 HND.out xd
              simp only [ienc] at hrun
              have H6 := Lib.hid H6'
              clear H6' H5
              go_upto_region 38 with (fail)
              clear hrun
              have c0 := H6.out.cell 0 rfl (k := 1) rfl
              have u0 := H6.out.froz 0 rfl (k := 1)
              obtain ⟨f6, HF6⟩ : ∃ z, Hid (z = f5 + 1) := ⟨_, Lib.hid rfl⟩
              have hf5 : f5 < 140737488355328 := by rw [HF5.out]; exact HFL.out
              have k1 : (f5 : Int) + 1 = (f6 : Int) := by have := HF6.out; omega
              have k2 : (0 : Int) ≤ (f5 : Int) := by omega
              have k3 : (f6 : Int) < 9223372036854775807 := by have := HF6.out; omega
              have H7 := Lib.hid (H6.out.set 0 rfl (k := 1) (.int .i64 (f6 : Int)))
              clear H6
              go_upto_region 39 with (fail)
              clear c0 u0 k1 k2 k3 hf5
              generalize we.setCell ⟨g8, 1, none⟩ (.int .i64 (f6 : Int)) = wd at H7 ⊢
              have HF5b : Hid (f6 = cs.f + 1) := Lib.hid (by rw [HF6.out, HF5.out])
              clear HF5 HF6
              have HF5 := Lib.hid HF5b.out
              clear HF5b
              obtain ⟨dt2, HDT2⟩ : ∃ d, Hid (d = mup dt (np : Int) xd) := ⟨_, Lib.hid rfl⟩
              obtain ⟨nd2, HND2⟩ : ∃ d, Hid (d = if (dt (np : Int)).isSome then nd else nd + 1) := ⟨_, Lib.hid rfl⟩
              have HB : Hid (Sep wA wd [cdI g8 (.slice Ar nr cr) f6 s5 st5, c10 g10 gd, c11 g11 gy, im gd nd2 dt2, bm gy ny dy, im gu nu6 u6, .row 3 1 (.slice Ar nr cr) nr (rd.flatMap icell), opI gx 1 (np : Int) od]) := Lib.hid (by rw [HDT2.out, HND2.out]; exact H7.out)
              have HDT : Hid (dt2 (np : Int) = some xd) := Lib.hid (by rw [HDT2.out]; exact mup_same _ _ _)
              have HD1 : Hid (nd2 ≤ k + 1) := Lib.hid (by have := HNDK.out; rw [HND2.out]; split <;> omega)
              have HY1 : Hid (ny ≤ k + 1) := Lib.hid (by have := HNYK.out; omega)
              have HRT2 := Lib.hid (RW.push (p := ⟨np, xd, false⟩) (dt' := dt2) (dy' := dy) HRW.out rfl (fun x hx => by rw [HDT2.out]; exact mup_other _ _ hx) HDT.out (fun x hx => rfl) HDY.out)
              clear HRW H7 HND m0 m1
              have l3 := HB.out.look 3 rfl kint HPW.out Try.underlying67 (iz wd)
              rw [HDT.out] at l3
              simp only [Option.elim, ienc] at l3
              have o1 := HB.out.cell 7 rfl (k := 1) rfl
              have o2 := HB.out.cell 1 rfl (k := 0) rfl
              have o3 := HB.out.cell 0 rfl (k := 0) rfl
              have hnr : nr ≤ 5864062014806 := by rw [HNR.out]; exact HRL.out
              have hnew := Lib.hid (Rd.of_own (own_new wd 3 #[.int .i64 xd] 1 1 rfl (by simp [maxLen]) (Nat.le_refl _)))
              go_upto_region 40 with (at_builtin; refine wpList_append_sep (HB.out.alloc _) 6 rfl (.tmp 142) (.tmp 147) 23 rfl 3 ti (.int .i64 0) 1 8 Try.underlying23 HTI.out.1 HTI.out.2.1 HTI.out.2.2.1 HTI.out.2.2.2 rfl (by omega) _ nr _ rfl rfl _ _ 1 1 _ rfl hnew.out (by simp [Value.oneCell']) (by simp only [maxLen]; omega) (by omega) ?_; intro A6 c6 w6 hc6 hs6 H6'; have H6 := Lib.hid H6'; clear H6'; have c2 := H6.out.cell 0 rfl (k := 0) rfl; have u2 := H6.out.froz 0 rfl (k := 0))
              have H9 := Lib.hid (H6.out.set 0 rfl (k := 0) (.slice A6 (nr + 1) c6))
              clear c2 u2 H6 o1 o2 o3 l3 HB
              generalize w6.setCell ⟨g8, 0, none⟩ (.slice A6 (nr + 1) c6) = w7 at H9 ⊢
              go_wp2
              go_roundg (n - (k + 1))
              case measure => omega
              case rel =>
                refine ⟨k + 1, _, A6, c6, _, _, _, _, _, by omega, rfl, by go_num, HOK2, HBD2, HP2, HRT2, HD1, HY1, ?_⟩
                have K9 := H9.out.pick [0, 1, 2, 3, 4, 5, 6] (by decide) (by simp)
                simp only [rdI, List.length_append, List.length_singleton, List.flatMap_append]
                rw [HF5.out, HNR.out, HRD.out, HS5.out, HST5.out, HU6.out, HNU6.out] at K9
                simp only [List.length_append, List.length_singleton] at K9
                exact K9
        · obtain rfl : n = k := by omega
          have hF := HF.out
          rw [List.drop_of_length_le (by rw [HL.out]; omega)] at hF
          cases hF
          have HJ := Lib.hid (HN0.out.join HS.out)
          have HOO := Lib.hid HOK.out
          have hB := Lib.hid (HJ.out.blk 0 rfl)
          have hrg : Hid (wr.rangeAt g8 0 (cdc (.slice Ar cf.rd.length cr) cf.f cf.s cf.st)) := Lib.hid (fun j v hv => by rw [Nat.zero_add]; exact HJ.out.cell 1 rfl (k := j) hv)
          have hsz : Hid ((Try.prog.info? 26).map (·.size) = some (cdc (.slice Ar cf.rd.length cr) cf.f cf.s cf.st).length) := Lib.hid (by rw [cdc_len HOO.out.st]; exact info64)
          have hsa : Hid ((Try.prog.info? 26).map (·.size) = some (cdc (.slice Ar cf.rd.length cr) cf.f cf.s cf.st).toArray.size) := Lib.hid (by rw [List.size_toArray]; exact hsz.out)
          have HW := Lib.hid (HJ.out.whole 0 rfl (cdc (.slice Ar cf.rd.length cr) cf.f cf.s cf.st))
          go_wp2_with (first | (refine wpList_load_mid rfl 26 (.tmp 8) rfl g8 0 rfl _ _ hrg.out Try.underlying26 rfl hsz.out ?_) | (refine wpList_store_row rfl 26 (.tmp 4) (.tmp 151) rfl g4 _ rfl rfl 26 Z0.toArray hB.out hsa.out (by rw [List.size_toArray, List.size_toArray, cdc_len HOO.out.st]; rfl) cdc_one ?_))
          have hld : (loadVar 26 ⟨g4, 0, none⟩).run Try.prog (wr.setRow g4 (cdc (.slice Ar cf.rd.length cr) cf.f cf.s cf.st).toArray) = .ok (.agg (cdc (.slice Ar cf.rd.length cr) cf.f cf.s cf.st).toArray) _ :=
            run_loadVar_row _ g4 26 26 _ (0, 0) _ (HW.out.blk 0 rfl) Try.underlying26 rfl hsa.out
          refine bodyPost_ret (v := .tuple #[.agg (cdc (.slice Ar cf.rd.length cr) cf.f cf.s cf.st).toArray, .int .i64 0]) (by simp [results, Try.results8, asAddr, hld]) rfl ?_
          exact ⟨Ar, cr, rfl, HW.out.pick [7] (by decide) (by simp)⟩
end Ca
end Go.Proofs.Ytfljbiobiobamaa
