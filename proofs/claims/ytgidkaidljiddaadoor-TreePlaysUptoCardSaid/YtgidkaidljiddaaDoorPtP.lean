/-
  Paths: walk of path.Parts. Conditions: none beyond each theorem's own premises.
-/
import Derived.Test.YtgidkaidljiddaaDoorPtW2
namespace Go.Proofs.YtgidkaidljiddaaDoor
open Go.RowKit Go.Shelf
set_option linter.unusedVariables false
attribute [local go_sem] Oper.semAt_some
namespace Pt

/-- what the loop's body finds between two rounds: out, its row, and SplitSeq's own three variables -/
def PL (go gs gp gv : Nat) (pre : List By) (q : Option Addr × Nat × By) : List It :=
  [.cells go 42 [.slice q.1 (pre.foldl stp []).length q.2.1], .row 9 1 (.slice q.1 (pre.foldl stp []).length q.2.1) (pre.foldl stp []).length ((pre.foldl stp []).flatMap sc),
   .cells gs 9 [.string (bs q.2.2)], .cells gp 9 [.string ⟨#[47]⟩], .cells gv 3 [.int .i64 0]]
def PI (w : World) (go gs gp gv : Nat) (pre : List By) (u : World) : Prop := ∃ q, Sep w u (PL go gs gp gv pre q)
theorem pi_own (w : World) (go gs gp gv B : Nat) (hB : w.heap.size ≤ B) : OwnFrom B (PI w go gs gp gv) :=
  own_ex (γ := Option Addr × Nat × By) (I := fun q (pre : List By) u => Sep w u (PL go gs gp gv pre q)) fun q =>
    sep_own hB (fun pre : List By => PL go gs gp gv pre q) fun pre x hx => by
      simp only [PL, List.mem_cons, List.not_mem_nil, or_false] at hx
      rcases hx with rfl | rfl | rfl | rfl | rfl
      · exact cellIt_cells _ _ _
      · exact cellIt_row _ _ _ _ _
      · exact cellIt_cells _ _ _
      · exact cellIt_cells _ _ _
      · exact cellIt_cells _ _ _
theorem stp_skip (pre : List By) {x : By} (h : x = [] ∨ x = [46]) : (pre ++ [x]).foldl stp [] = pre.foldl stp [] := by
  rw [List.foldl_append, List.foldl_cons, List.foldl_nil]
  generalize pre.foldl stp [] = o
  unfold stp
  rw [if_pos h]
theorem stp_up (pre : List By) : (pre ++ [[46, 46]]).foldl stp [] = (pre.foldl stp []).take ((pre.foldl stp []).length - 1) := by
  rw [List.foldl_append, List.foldl_cons, List.foldl_nil]
  generalize pre.foldl stp [] = o
  unfold stp
  rw [if_neg (by simp), if_pos rfl]
theorem stp_name (pre : List By) {x : By} (h1 : x ≠ []) (h2 : x ≠ [46]) (h3 : x ≠ [46, 46]) : (pre ++ [x]).foldl stp [] = pre.foldl stp [] ++ [x] := by
  rw [List.foldl_append, List.foldl_cons, List.foldl_nil]
  generalize pre.foldl stp [] = o
  unfold stp
  rw [if_neg (fun h => h.elim h1 h2), if_neg h3]

theorem fold_len : ∀ (l out : List By), (l.foldl stp out).length ≤ out.length + l.length
  | [], out => by simp
  | p :: l, out => by
    have h1 := fold_len l (stp out p)
    have h2 : (stp out p).length ≤ out.length + 1 := by
      unfold stp
      split
      · omega
      · split
        · rw [List.length_take]; omega
        · simp
    rw [List.foldl_cons, List.length_cons]
    omega
set_option maxRecDepth 100000 in
set_option maxHeartbeats 2000000 in
theorem parts_any (s : By) (hs : s.length ≤ 1048577) (w : World) :
    Calls Tryd.prog 27 #[.string (bs s)] w (SliceRet w 9 1 (parts s).length ((parts s).flatMap sc)) := by
  obtain ⟨ti, hti, t0, t1, t2⟩ := info_parts string_info
  have HS0 := Lib.hid (((Sep.nil_ w).new 42 [.slice none 0 0]).nilRow 9 1 none)
  have cS := fun W => (callsIn_wide (n := 9)).2 (splitSeq_any s W)
  refine (callsIn_wide (n := 10)).1 ?_
  refine callsIn_of_wp_marks Tryd.func27 rfl trivial ?_ rfl
  simp only [Tryd.ntmps27, List.size_toArray, List.length_cons, List.length_nil, Nat.reduceAdd, Nat.reduceSub, Array.replicate_succ, Array.replicate_zero, List.push_toArray, List.append_toArray, List.nil_append, List.cons_append]
  have cS1 := cS (w.alloc (.cells #[.slice none 0 0] 42))
  gi_wp2_with (refine ⟨trivial, ?_⟩; gi_at_call 36; refine cS1.mono ?_; rintro e w2 ⟨gs, gp, gv, rfl, hs2⟩)
  have hW2 := HS0.out.join hs2
  have hbl := hW2.below
  refine wpIn_range_state rfl (by omega) (gf := 66) (lb := #[.pointer (some ⟨gp, 0, none⟩), .pointer (some ⟨gs, 0, none⟩), .pointer (some ⟨gv, 0, none⟩)]) rfl trivial (enters_of Tryd.func66 (by kernel_rfl) rfl)
    (encs := fun x : By => #[.string (bs x)]) (fun _ => rfl) (PI w w.heap.size gs gp gv) (pi_own w _ gs gp gv _ hbl.size) ⟨(none, 0, s), hW2⟩
    (fun x => { tmps := #[.string (bs s), undef, .slice none 0 0, .pointer (some ⟨w.heap.size, 0, none⟩), .string (bs x), .string (bs s), .func (.func 66) #[] #[.pointer (some ⟨gp, 0, none⟩), .pointer (some ⟨gs, 0, none⟩), .pointer (some ⟨gv, 0, none⟩)], .string (bs x), undef, undef, undef, undef, undef, undef, undef, undef, undef, undef, undef, undef, undef, undef, undef, undef, undef, undef], defers := [] })
    (fun k => k = gs ∨ k = gp ∨ k = gv) ?ks (spl s) ?iter ?assign ?body ?done
  case ks =>
    rintro k (rfl | rfl | rfl)
    · exact (hs2.blk 0 rfl).lt
    · exact (hs2.blk 1 rfl).lt
    · exact (hs2.blk 2 rfl).lt
  case iter =>
    intro l J W hW hJI hJJ hY h0
    exact split1_any 9 l gs gp gv w2.heap.size (by omega) (hs2.blk 0 rfl).lt (PI w w.heap.size gs gp gv) J hJI hJJ (fun pre U x ⟨q, hq⟩ => ⟨(q.1, q.2.1, x), hq.set 2 rfl (k := 0) (.string (bs x))⟩) s hs
      ⟨hs2.ne 0 1 (by decide) rfl rfl rfl rfl, hs2.ne 0 2 (by decide) rfl rfl rfl rfl⟩ hY W h0 ((hs2.blk 0 rfl).later hW) ((hs2.blk 1 rfl).later hW) ((hs2.blk 2 rfl).later hW)
  case assign =>
    intro l x W K hK
    gi_wp2
    exact hK
  case body =>
    rintro l pre x W ⟨⟨A, c, t⟩, hq⟩ hlt
    obtain ⟨o, ho⟩ : ∃ o, pre.foldl stp [] = o := ⟨_, rfl⟩
    obtain ⟨n, hn⟩ : ∃ n, o.length = n := ⟨_, rfl⟩
    have hq0 := hq
    unfold PL at hq
    simp only [ho, hn] at hq
    have s0 := hq.cell 0 rfl (k := 0) rfl
    have u0 := hq.froz 0 rfl (k := 0)
    have hnc : n ≤ c := by
      obtain ⟨A', c', e, h⟩ := (hq.rowHas 1 rfl).slice
      cases e
      exact h
    have hpl : n ≤ 1048578 := by
      have h1 := fold_len pre []
      have h2 := spl_sum s
      rw [ho, hn] at h1
      simp only [List.length_nil] at h1
      omega
    by_cases h1 : x = []
    · have z1 : (bs x).toList.isEmpty = true := by rw [bs_toList, h1]; rfl
      have H1 := Lib.hid h1
      clear h1
      gi_wp2
      exact ⟨KeepsFrom.refl _ _, fun _ _ => rfl, (A, c, t), by unfold PL; rw [stp_skip pre (.inl H1.out)]; exact hq0⟩
    · have z1 : (bs x).toList.isEmpty = false := by rw [bs_toList]; simp [h1]
      have H1 := Lib.hid h1
      clear h1
      by_cases h2 : x = [46]
      · have z2 : ((bs x).toList == [46]) = true := by rw [bs_toList, h2]; rfl
        have H2 := Lib.hid h2
        clear h2
        gi_wp2
        exact ⟨KeepsFrom.refl _ _, fun _ _ => rfl, (A, c, t), by unfold PL; rw [stp_skip pre (.inr H2.out)]; exact hq0⟩
      · have z2 : ((bs x).toList == [46]) = false := by rw [bs_toList]; simp [h2]
        have H2 := Lib.hid h2
        clear h2
        by_cases h3 : x = [46, 46]
        · have z3 : ((bs x).toList == [46, 46]) = true := by rw [bs_toList, h3]; rfl
          have H3 := Lib.hid h3
          clear h3
          gi_wp2
          have e : (max ((n : Int) - 1) 0).toNat = n - 1 := by omega
          rw [e]
          have hfin := ((sep_shorter hq 1 rfl (Nat.sub_le n 1)).set 0 rfl (k := 0) (.slice A (n - 1) c))
          refine ⟨(KeepsOthers.setCell _ _ _).from _, ?_, (A, c, t), ?_⟩
          · rintro k (rfl | rfl | rfl)
            · exact (hfin.blk 2 rfl).trans (hq.blk 2 rfl).symm
            · exact (hfin.blk 3 rfl).trans (hq.blk 3 rfl).symm
            · exact (hfin.blk 4 rfl).trans (hq.blk 4 rfl).symm
          · have hl : (o.take (n - 1)).length = n - 1 := by rw [List.length_take, hn]; omega
            unfold PL
            rw [H3.out]
            simp only [stp_up pre, ho, hn, hl]
            rw [flat_take sc_len] at hfin
            exact hfin
        · have z3 : ((bs x).toList == [46, 46]) = false := by rw [bs_toList]; simp [h3]
          have H3 := Lib.hid h3
          clear h3
          have hnew := Rd.of_own (own_new W 9 #[.string (bs x)] 1 1 rfl (by simp [maxLen]) (Nat.le_refl _))
          gi_wp2_with (gi_at_builtin; refine wpListIn_append_sep (hq.alloc _) 1 rfl (.tmp 9) (.tmp 11) 42 rfl 9 ti (.string ⟨#[]⟩) 1 16 Tryd.underlying42 hti t0 t1 t2 rfl (by omega) _ n _ rfl rfl _ _ 1 1 _ rfl hnew (by simp [Value.oneCell']) (by simp only [maxLen]; omega) (by omega) ?_; intro A' c' u' hc' hko hbe hs'; have s1 := hs'.cell 0 rfl (k := 0) rfl; have u1 := hs'.froz 0 rfl (k := 0))
          have hfin := (hs'.set 0 rfl (k := 0) (.slice A' (n + 1) c'))
          refine ⟨(((KeepsOthers.alloc _ _).trans hko).trans (KeepsOthers.setCell _ _ _)).from _, ?_, (A', c', t), ?_⟩
          · rintro k (rfl | rfl | rfl)
            · exact (hfin.blk 2 rfl).trans (hq.blk 2 rfl).symm
            · exact (hfin.blk 3 rfl).trans (hq.blk 3 rfl).symm
            · exact (hfin.blk 4 rfl).trans (hq.blk 4 rfl).symm
          · unfold PL
            simp only [stp_name pre H1.out H2.out H3.out, ho, List.length_append, List.length_singleton, hn, List.flatMap_append]
            exact hfin
  case done =>
    rintro D W hD ⟨⟨A, c, t⟩, hq⟩ hK
    obtain ⟨o, ho⟩ : ∃ o, (spl s).foldl stp [] = o := ⟨_, rfl⟩
    have hpo : parts s = o := ho
    obtain ⟨n, hn⟩ : ∃ n, o.length = n := ⟨_, rfl⟩
    unfold PL at hq
    simp only [ho, hn] at hq
    have hnl : n ≤ 1048578 := by
      have h1 := parts_sum s
      rw [hpo, hn] at h1
      omega
    have s0 := hq.cell 0 rfl (k := 0) rfl
    have cK := (callsIn_wide (n := 9)).2 (sclone_any A n c (o.flatMap sc) W (hq.rd 1 rfl) (sc_one o) (by omega) (by omega))
    gi_wp2_with (refine ⟨trivial, ?_⟩; gi_at_call 37; refine cK.mono ?_; rintro e w3 ⟨A3, c3, hc3, rfl, hs3⟩)
    have hK3 : w3.heap[D]? = some (.deferred (some [])) := (hs3.below.block D (Array.getElem?_eq_some_iff.1 hK).1).trans hK
    have hj := (hq.join hs3).pick [5] (by decide) (by simp)
    rw [hpo, hn]
    refine ⟨by simp, .inl ⟨_, _, rfl, run_takeDeferred hK3, ?_⟩⟩
    refine ⟨_, results_tmp rfl _ _ _, A3, c3, hc3, rfl, ?_⟩
    refine hj.grownNo (grownBy_putObj' w3 D _) (fun r e => ?_)
    cases e
    refine ⟨by have := hbl.size; omega, fun i x hx he => ?_⟩
    have hxr : x = .row 9 1 (.slice A3 n c3) n (o.flatMap sc) := by
      rcases i with _ | i
      · simpa [pickL] using hx.symm
      · simp [pickL] at hx
    subst hxr
    have := cellIt_row _ _ _ _ _ w3 (hs3.rowHas 0 rfl) D _ he hK3
    cases this
end Pt
end Go.Proofs.YtgidkaidljiddaaDoor
