/-
  The plain law of TopText: a text of operations is read as the operations, but for what a line does not say; they play alike; a line begins with 'ok' just where nothing is wrong. Plain Lean, no program. Conditions: none.
-/
import Derived.Test.YtccpkkopniadiaaGreatDoorBnTw
import Derived.Test.YtccpkkopniadiaaGreatDoorBnPo
namespace Go.Proofs.YtccpkkopniadiaaGreatDoor
set_option linter.unusedVariables false
namespace So
open _root_.Go.Proofs.YtccpkkopniadiaaGreatDoor.Bn _root_.Go.Proofs.YtccpkkopniadiaaGreatDoor.Dr

/-- what a line says of an operation -/
def cn (o : Op) : Op := if o.kind = 1 then ⟨1, o.nm, o.dt, 0⟩ else if o.kind = 2 then ⟨2, o.nm, e0, 0⟩ else if o.kind = 3 then ⟨3, o.nm, e0, 0⟩ else if o.kind = 4 then ⟨4, e0, e0, 0⟩ else ⟨5, e0, e0, o.keep⟩
theorem cn1 {o : Op} (h : o.kind = 1) : cn o = ⟨1, o.nm, o.dt, 0⟩ := if_pos h
theorem cn2 {o : Op} (h : o.kind = 2) : cn o = ⟨2, o.nm, e0, 0⟩ := by unfold cn; rw [h]; rfl
theorem cn3 {o : Op} (h : o.kind = 3) : cn o = ⟨3, o.nm, e0, 0⟩ := by unfold cn; rw [h]; rfl
theorem cn4 {o : Op} (h : o.kind = 4) : cn o = ⟨4, e0, e0, 0⟩ := by unfold cn; rw [h]; rfl
theorem cn5 {o : Op} (h : o.kind = 5) : cn o = ⟨5, e0, e0, o.keep⟩ := by unfold cn; rw [h]; rfl
theorem lk_kind {o : Op} (h : lk o = true) : o.kind = 1 ∨ o.kind = 2 ∨ o.kind = 3 ∨ o.kind = 4 ∨ o.kind = 5 := by
  unfold lk at h
  split at h
  · omega
  · split at h
    · omega
    · split at h
      · omega
      · cases h
theorem lk_word {o : Op} (h : lk o = true) (hk : o.kind = 1 ∨ o.kind = 2 ∨ o.kind = 3) : wd (nmL o) = true := by
  unfold lk at h
  rwa [if_pos hk] at h
theorem lk_keep {o : Op} (h : lk o = true) (hk : o.kind = 5) : 0 ≤ o.keep ∧ o.keep ≤ 1099511627776 := by
  unfold lk at h
  rw [hk] at h
  simpa using h
theorem cn_reads {o : Op} (h : lk o = true) : Reads (lt o) (cn o) := by
  rcases lk_kind h with hk | hk | hk | hk | hk
  · rw [cn1 hk]
    refine ⟨.write _ _, ?_, ?_⟩
    · have := lk_word h (.inl hk)
      exact this
    · unfold lt; rw [hk]; rfl
  · rw [cn2 hk]
    refine ⟨.remove _, ?_, ?_⟩
    · have := lk_word h (.inr (.inl hk))
      exact this
    · unfold lt; rw [hk]; rfl
  · rw [cn3 hk]
    refine ⟨.read _, ?_, ?_⟩
    · have := lk_word h (.inr (.inr hk))
      exact this
    · unfold lt; rw [hk]; rfl
  · rw [cn4 hk]
    refine ⟨.sync, rfl, ?_⟩
    unfold lt; rw [hk]; rfl
  · rw [cn5 hk]
    refine ⟨.crash _, ?_, ?_⟩
    · have h2 := lk_keep h hk
      show (decide (0 ≤ o.keep) && decide (o.keep ≤ 1099511627776)) = true
      simp [h2]
    · unfold lt; rw [hk]; rfl
theorem lt_no {o : Op} (h : lk o = true) : ∀ b ∈ lt o, b ≠ 10 := by
  intro b hb
  rcases lk_kind h with hk | hk | hk | hk | hk
  · have hw := lk_word h (.inl hk)
    have e : lt o = pW ++ 32 :: (nmL o ++ 32 :: hx (dtL o)) := by unfold lt; rw [hk]; rfl
    rw [e] at hb
    simp only [List.mem_append, List.mem_cons] at hb
    rcases hb with h1 | rfl | h1 | rfl | h1
    · revert b; decide
    · decide
    · exact wd_no hw (by decide) b h1
    · decide
    · exact (hx_no _ b h1).2
  · have hw := lk_word h (.inr (.inl hk))
    have e : lt o = pM ++ 32 :: nmL o := by unfold lt; rw [hk]; rfl
    rw [e] at hb
    simp only [List.mem_append, List.mem_cons] at hb
    rcases hb with h1 | rfl | h1
    · revert b; decide
    · decide
    · exact wd_no hw (by decide) b h1
  · have hw := lk_word h (.inr (.inr hk))
    have e : lt o = pR ++ 32 :: nmL o := by unfold lt; rw [hk]; rfl
    rw [e] at hb
    simp only [List.mem_append, List.mem_cons] at hb
    rcases hb with h1 | rfl | h1
    · revert b; decide
    · decide
    · exact wd_no hw (by decide) b h1
  · have e : lt o = pS := by unfold lt; rw [hk]; rfl
    rw [e] at hb
    revert b; decide
  · have h2 := lk_keep h hk
    have e : lt o = pC ++ 32 :: Lib.itoa o.keep := by unfold lt; rw [hk]; rfl
    rw [e] at hb
    simp only [List.mem_append, List.mem_cons] at hb
    rcases hb with h1 | rfl | h1
    · revert b; decide
    · decide
    · exact (itoa_no _ h2.1 b h1).2
theorem txt_cons (o : Op) (l : List Op) : txt (o :: l) = lt o ++ 10 :: txt l := by
  simp [txt]
theorem txt_pr : ∀ (l es : List Op), (∀ o ∈ l, lk o = true) → PR (txt l) es (some (es ++ l.map cn)) 0
  | [], es, _ => by simpa [txt] using PR.done
  | o :: l, es, h => by
    rw [txt_cons]
    have h1 := h o (by simp)
    have ih := txt_pr l (es ++ [cn o]) (fun x hx => h x (by simp [hx]))
    have e : es ++ [cn o] ++ l.map cn = es ++ (o :: l).map cn := by simp
    rw [e] at ih
    exact .line (lt_no h1) (cn_reads h1) ih

/-! they play alike -/
def Ch (C : List Op) : Prop := ∀ x ∈ C, x.kind = 1 ∨ x.kind = 2
theorem ap_cn {h : Fs} {o : Op} (hk : o.kind = 1 ∨ o.kind = 2) : ap h (cn o) = ap h o := by
  rcases hk with hk | hk
  · rw [cn1 hk, ap_write hk]; rfl
  · rw [cn2 hk, ap_other (o := o) (by rw [hk]; decide), ap_other (by decide : ¬ (2 : Int) = 1)]
theorem now_cn : ∀ (C : List Op) (D : Fs), Ch C → now D (C.map cn) = now D C
  | [], D, _ => rfl
  | o :: C, D, h => by
    show now (ap D (cn o)) (C.map cn) = now (ap D o) C
    rw [ap_cn (h o (by simp)), now_cn C _ (fun x hx => h x (by simp [hx]))]
theorem ch_snoc {C : List Op} {o : Op} (h : Ch C) (ho : o.kind = 1 ∨ o.kind = 2) : Ch (C ++ [o]) := fun x hx => by
  rcases List.mem_append.1 hx with h1 | h1
  · exact h x h1
  · rw [List.mem_singleton.1 h1]; exact ho
theorem ch_take {C : List Op} (h : Ch C) (k : Nat) : Ch (C.take k) := fun x hx => h x (List.mem_of_mem_take hx)
theorem map_snoc (C : List Op) (o : Op) : (C ++ [o]).map cn = C.map cn ++ [cn o] := by simp
theorem way_cn {D D' : Fs} {C C' : List Op} {o : Op} {a : An} (hw : Way D C o a D' C') (hC : Ch C) (hk : lk o = true) : Way D (C.map cn) (cn o) a D' (C'.map cn) ∧ Ch C' := by
  have hn := now_cn C D hC
  have hkk := lk_kind hk
  cases hw with
  | low h => omega
  | high h => omega
  | bad h h1 => refine ⟨?_, hC⟩; rw [cn1 h]; exact .bad rfl h1
  | long h h1 h2 => refine ⟨?_, hC⟩; rw [cn1 h]; exact .long rfl h1 h2
  | full h h1 h2 h3 n h4 h5 => refine ⟨?_, hC⟩; rw [cn1 h]; exact .full rfl h1 h2 (by rw [hn]; exact h3) n (by rw [hn]; exact h4) h5
  | fresh h h1 h2 h3 n h4 h5 => refine ⟨?_, ch_snoc hC (.inl h)⟩; rw [map_snoc, cn1 h]; exact .fresh rfl h1 h2 (by rw [hn]; exact h3) n (by rw [hn]; exact h4) h5
  | over h h1 h2 b h3 => refine ⟨?_, ch_snoc hC (.inl h)⟩; rw [map_snoc, cn1 h]; exact .over rfl h1 h2 b (by rw [hn]; exact h3)
  | none2 h h3 => refine ⟨?_, hC⟩; rw [cn2 h]; exact .none2 rfl (by rw [hn]; exact h3)
  | none3 h h3 => refine ⟨?_, hC⟩; rw [cn3 h]; exact .none3 rfl (by rw [hn]; exact h3)
  | remove h b h3 => refine ⟨?_, ch_snoc hC (.inr h)⟩; rw [map_snoc, cn2 h]; exact .remove rfl b (by rw [hn]; exact h3)
  | read h b h3 => refine ⟨?_, hC⟩; rw [cn3 h]; exact .read rfl b (by rw [hn]; exact h3)
  | sync h => refine ⟨?_, fun x hx => (by cases hx)⟩; rw [cn4 h, ← hn]; exact .sync rfl
  | before h h1 => refine ⟨?_, hC⟩; rw [cn5 h]; exact .before rfl h1
  | crash h k h1 h2 =>
    refine ⟨?_, fun x hx => (by cases hx)⟩
    rw [cn5 h, ← now_cn _ D (ch_take hC k), List.map_take]
    exact .crash rfl k h1 (by rw [List.length_map]; exact h2)
theorem plays_cn : ∀ {os : List Op} {D : Fs} {C : List Op} {an : List An} {D' : Fs} {C' : List Op}, Plays D C os an D' C' → Ch C → (∀ o ∈ os, lk o = true) → Plays D (C.map cn) (os.map cn) an D' (C'.map cn) ∧ Ch C'
  | [], _, _, _, _, _, h, hC, _ => by cases h; exact ⟨.nil, hC⟩
  | o :: os, _, _, _, _, _, h, hC, hk => by
    cases h with
    | cons hw ht =>
      obtain ⟨h1, h2⟩ := way_cn hw hC (hk o (by simp))
      obtain ⟨h3, h4⟩ := plays_cn ht h2 (fun x hx => hk x (by simp [hx]))
      exact ⟨.cons h1 h3, h4⟩

/-! a line's beginning -/
theorem aln_two (o : Op) (a : An) : 2 ≤ (aln o a).length := by
  unfold aln
  split
  · split
    · rw [List.length_append]; show 2 ≤ 2 + _; omega
    · exact Nat.le_refl 2
  · rw [List.length_append]; show 2 ≤ 6 + _; omega
theorem aln_ok0 (o : Op) (a : An) (h : a.er = 0) : ((aln o a).take 2 == [111, 107]) = true := by
  unfold aln
  rw [if_pos h]
  split <;> rfl
theorem aln_ok1 (o : Op) (a : An) (h : ¬ a.er = 0) : ((aln o a).take 2 == [111, 107]) = false := by
  unfold aln
  rw [if_neg h]
  rfl
theorem aln_le (o : Op) (a : An) (h : Ab a) : (aln o a).length ≤ 500 := by
  obtain ⟨h1, h2, h3⟩ := h
  have hx1 := hx_len a.dt.data.toList
  have e : a.dt.data.toList.length = a.dt.size := size_data a.dt
  have hi := Lib.itoa_length_le a.er (by omega) (by omega)
  unfold aln
  split
  · split
    · rw [List.length_append, List.length_cons]; show 2 + _ ≤ _; omega
    · decide
  · rw [List.length_append]; show 6 + _ ≤ _; omega
end So
end Go.Proofs.YtccpkkopniadiaaGreatDoor
