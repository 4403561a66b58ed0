/-
  Folders: walk of dir.Rename, and what it answers. Conditions: none beyond each theorem's own premises.
-/
import Derived.Test.YtelgalhkggnkbabDrT
namespace Go.Proofs.Ytelgalhkggnkbab
open Go.RowKit Go.Shelf
set_option linter.unusedVariables false
namespace Dr

theorem right_cut {l : List En} (h : RightL l) (i : Nat) : RightL (l.take i ++ l.drop (i + 1)) := by
  have hs : (l.take i ++ l.drop (i + 1)).Sublist l := by
    rw [← List.eraseIdx_eq_take_drop_succ]
    exact List.eraseIdx_sublist l i
  exact ⟨fun e he => h.1 e (hs.subset he), h.2.sublist hs⟩
theorem ren_sorted {l : List En} (hr : RightL l) {i : Nat} {x : En} (hx : l[i]? = Option.some x) {tn : ByteArray} {id : Int} (hno : ∀ y ∈ l, y.nm ≠ tn) :
    Srt.isort ltE ((l.take i ++ l.drop (i + 1)).length + 1) ((l.take i ++ l.drop (i + 1)) ++ [⟨tn, id⟩]) = Srt.isort ltE l.length (l.set i ⟨tn, id⟩) := by
  have hil : i < l.length := (List.getElem?_eq_some_iff.1 hx).1
  have hset : l.set i ⟨tn, id⟩ = l.take i ++ (⟨tn, id⟩ : En) :: l.drop (i + 1) := List.set_eq_take_append_cons_drop .. |>.trans (by rw [if_pos hil])
  have hp : ((l.take i ++ l.drop (i + 1)) ++ [(⟨tn, id⟩ : En)]).Perm (l.set i ⟨tn, id⟩) := by
    rw [hset]
    exact (List.perm_append_singleton _ _).trans List.perm_middle.symm
  have h : Srt.isort ltE ((l.take i ++ l.drop (i + 1)) ++ [(⟨tn, id⟩ : En)]).length ((l.take i ++ l.drop (i + 1)) ++ [⟨tn, id⟩]) = Srt.isort ltE (l.set i ⟨tn, id⟩).length (l.set i ⟨tn, id⟩) := by
    have a1 := Srt.isort_asc ltE ltE_ntr ltE_asym ((l.take i ++ l.drop (i + 1)) ++ [(⟨tn, id⟩ : En)])
    have a2 := Srt.isort_asc ltE ltE_ntr ltE_asym (l.set i (⟨tn, id⟩ : En))
    have q1 := Srt.isort_perm ltE ((l.take i ++ l.drop (i + 1)) ++ [(⟨tn, id⟩ : En)])
    have q2 := Srt.isort_perm ltE (l.set i (⟨tn, id⟩ : En))
    refine Srt.asc_unique (fun a ha b hb h3 h4 => ?_) a1 a2 ((q1.trans hp).trans q2.symm)
    have ha2 := (q1.trans hp).subset ha
    have hb2 := (q1.trans hp).subset hb
    have hn : a.nm = b.nm := by
      by_cases e : a.nm = b.nm
      · exact e
      · unfold ltE at h3 h4
        rcases ltN_tot e with h5 | h5
        · rw [h3] at h5; cases h5
        · rw [h4] at h5; cases h5
    rcases List.mem_or_eq_of_mem_set ha2 with ha3 | ha3 <;> rcases List.mem_or_eq_of_mem_set hb2 with hb3 | hb3
    · obtain ⟨j, hj⟩ := List.mem_iff_getElem?.1 ha3
      obtain ⟨k, hk⟩ := List.mem_iff_getElem?.1 hb3
      obtain rfl := right_uniq hr hj hk hn
      rw [hj] at hk
      cases hk
      rfl
    · exact absurd (by rw [hn, hb3]) (hno a ha3)
    · exact absurd (by rw [← hn, ha3]) (hno b hb3)
    · rw [ha3, hb3]
  rw [List.length_append, List.length_singleton, List.length_set] at h
  exact h
/-- what Rename answers -/
inductive RenW (l : List En) (fr tn : ByteArray) : List En → Int → Prop
  | form (h : ¬ RightL l) : RenW l fr tn [] 1
  | none (h : RightL l) (h1 : ∀ x ∈ l, x.nm ≠ fr) : RenW l fr tn [] 3
  | same (h : RightL l) (i : Nat) (x : En) (h1 : l[i]? = Option.some x) (h2 : x.nm = fr) (h3 : fr = tn) : RenW l fr tn l 0
  | range (h : RightL l) (i : Nat) (x : En) (h1 : l[i]? = Option.some x) (h2 : x.nm = fr) (h3 : fr ≠ tn) (h4 : ¬ GoodB tn) : RenW l fr tn [] 2
  | held (h : RightL l) (i : Nat) (x : En) (h1 : l[i]? = Option.some x) (h2 : x.nm = fr) (h3 : fr ≠ tn) (h4 : GoodB tn) (h5 : ∃ y ∈ l, y.nm = tn) : RenW l fr tn [] 6
  | ok (h : RightL l) (i : Nat) (x : En) (h1 : l[i]? = Option.some x) (h2 : x.nm = fr) (h3 : fr ≠ tn) (h4 : GoodB tn) (h5 : ∀ y ∈ l, y.nm ≠ tn) : RenW l fr tn (Srt.isort ltE l.length (l.set i ⟨tn, x.id⟩)) 0
set_option maxRecDepth 100000 in
set_option maxHeartbeats 3200000 in
theorem rename_any (A : Option Addr) (n c : Nat) (l : List En) (fr tn : ByteArray) (w : World) (hr : Rd w w.heap.size 2 A n (l.flatMap En.cells)) (hl : l.length = n) (hn : n ≤ 5864062014804) :
    Calls Try.prog 5 #[.slice A n c, .string fr, .string tn] w (ERet w (RenW l fr tn)) := by
  obtain ⟨gb2, hgb2⟩ : ∃ gb2 : Bool, gb2 = true ↔ GoodB tn := ⟨decide (GoodB tn), by simp⟩
  obtain ⟨sb, hsb⟩ : ∃ sb : Bool, (fr.toList == tn.toList) = sb := ⟨_, rfl⟩
  have cF := Lib.hid (find_any A n c l fr w hr hl (by omega))
  have cK := Lib.hid (fun W (hW : Below w.heap.size w W) => eclone_any A n c (l.flatMap En.cells) W (hr.later hW) (En.one l) (by omega) (by omega))
  have cG := Lib.hid (fun W => dgood_any tn gb2 W hgb2)
  have cS := Lib.hid (fun W (hW : Below w.heap.size w W) => at_any A n c l tn W (hr.later hW) hl (by omega))
  have cM := Lib.hid (fun W (hW : Below w.heap.size w W) => remove_any A n c l fr W (hr.later hW) hl hn)
  have HR := Lib.hid hr
  have HL := Lib.hid hl
  have HGB := Lib.hid hgb2
  clear hr hl hgb2
  go_enter Try.func5, Try.ntmps5
  go_wp2_with fail
  refine cF.out.mono ?_; rintro en w1 ⟨k, er, rfl, hf, hb1⟩
  have HB1 := Lib.hid hb1
  clear hb1 cF
  cases hf with
  | form h =>
    have H := Lib.hid h
    clear h
    go_wp2
    go_ret2
    exact ERet.nil_ (.form H.out) HB1.out
  | none h h1 =>
    have H := Lib.hid h
    have H1 := Lib.hid h1
    clear h h1
    go_wp2
    go_ret2
    exact ERet.nil_ (.none H.out H1.out) HB1.out
  | some h i x h1 h2 =>
    have H := Lib.hid h
    have H1 := Lib.hid h1
    have H2 := Lib.hid h2
    clear h h1 h2
    cases sb with
    | true =>
      have H3 : Hid (fr = tn) := Lib.hid (toList_inj (by rwa [beq_iff_eq] at hsb))
      go_wp2_with fail
      refine (cK.out w1 HB1.out).mono ?_; rintro en w2 ⟨A2, c2, hc2, rfl, hs2⟩
      have HS := Lib.hid hs2
      clear hs2 cK
      go_wp2
      go_ret2
      refine ⟨A2, c2, l, 0, by rw [HL.out]; rfl, .same H.out i x H1.out H2.out H3.out, ?_, HB1.out.trans (HS.out.below.mono HB1.out.size)⟩
      rw [HL.out]
      exact HS.out.rd 0 rfl
    | false =>
      have H3 : Hid (fr ≠ tn) := Lib.hid (fun e => by rw [e] at hsb; simp at hsb)
      go_wp2_with fail
      refine (cG.out w1).mono ?_; rintro en w2 ⟨rfl, hb2⟩
      have HB2 := Lib.hid (HB1.out.trans (hb2.mono HB1.out.size))
      clear hb2 cG
      cases gb2 with
      | false =>
        have H4 : Hid (¬ GoodB tn) := Lib.hid (fun h => absurd (HGB.out.2 h) (by decide))
        go_wp2
        go_ret2
        exact ERet.nil_ (.range H.out i x H1.out H2.out H3.out H4.out) HB2.out
      | true =>
        have H4 : Hid (GoodB tn) := Lib.hid (by have := HGB.out; simpa using this)
        go_wp2_with fail
        refine (cS.out w2 HB2.out).mono ?_; rintro en w3 ⟨p, b, rfl, hpn, hin, hat, hb3⟩
        have HB3 := Lib.hid (HB2.out.trans (hb3.mono HB2.out.size))
        have HAT := Lib.hid hat
        clear hb3 hat hin cS
        cases b with
        | true =>
          obtain ⟨y, hy, hyn⟩ := ((HAT.out H.out).2.2).1 rfl
          have H5 : Hid (∃ y ∈ l, y.nm = tn) := Lib.hid ⟨y, List.mem_of_getElem? hy, hyn⟩
          clear hy hyn
          go_wp2
          go_ret2
          exact ERet.nil_ (.held H.out i x H1.out H2.out H3.out H4.out H5.out) HB3.out
        | false =>
          have H5 := Lib.hid (HAT.out.none H.out)
          go_wp2_with fail
          refine (cM.out w3 HB3.out).mono ?_; rintro en w4 ⟨A3, c3, o3, er3, rfl, hrem, hr3, hb4⟩
          obtain ⟨ho3, rfl⟩ := hrem.inv2 H.out H1.out H2.out
          obtain ⟨n3, hn3⟩ : ∃ n3, n3 = o3.length := ⟨_, rfl⟩
          rw [← hn3] at hr3 ⊢
          have hle : n3 ≤ n := by
            rw [hn3, ho3, List.length_append, List.length_take, List.length_drop, HL.out]
            have := (List.getElem?_eq_some_iff.1 H1.out).1
            rw [HL.out] at this
            omega
          have HB4 := Lib.hid (HB3.out.trans (hb4.mono HB3.out.size))
          have cA := Lib.hid (add_any A3 n3 c3 o3 tn x.id w4 hr3 hn3.symm (by omega))
          have HO3 := Lib.hid ho3
          clear hrem ho3 hn3 hr3 hb4 cM hle
          go_wp2_with fail
          refine cA.out.mono ?_; rintro en w5 ⟨A4, c4, o4, er4, rfl, hadd, hr4, hb5⟩
          obtain ⟨ho4, rfl⟩ := hadd.inv4 (by rw [HO3.out]; exact right_cut H.out i) (fun y hy => H5.out y (by
            rw [HO3.out] at hy
            rcases List.mem_append.1 hy with h | h
            · exact List.mem_of_mem_take h
            · exact List.mem_of_mem_drop h)) H4.out
          obtain ⟨n4, hn4⟩ : ∃ n4, n4 = o4.length := ⟨_, rfl⟩
          rw [← hn4] at hr4 ⊢
          have HR4 := Lib.hid hr4
          have HO4 := Lib.hid ho4
          have HN4 := Lib.hid hn4
          have HB5 := Lib.hid (HB4.out.trans (hb5.mono HB4.out.size))
          clear hadd ho4 hn4 hr4 hb5 cA
          go_wp2
          go_ret2
          refine ⟨A4, c4, o4, 0, by rw [← HN4.out]; rfl, ?_, by rw [← HN4.out]; exact HR4.out, HB5.out⟩
          rw [HO4.out, HO3.out, ren_sorted H.out H1.out H5.out]
          exact .ok H.out i x H1.out H2.out H3.out H4.out H5.out
end Dr
end Go.Proofs.Ytelgalhkggnkbab
