/-
  The file's pages in memory; walks of file.write and file.read. Conditions: none beyond each theorem's own premises.
-/
import Derived.Test.YtfljbiobiobamaaFlM
import Derived.Test.YtfljbiobiobamaaMap
import Derived.Test.YtfljbiobiobamaaStrB
namespace Go.Proofs.Ytfljbiobiobamaa
open Go.RowKit
set_option linter.unusedVariables false
namespace Fl

def bV (b : Nat) : Value := .int .u8 (b : Int)
def pE (g : Nat) : Value := .pointer (some ⟨g, 0, none⟩)
/-- page p.1 lies in block p.2 -/
def pI (c : Nat → Nat) (p : Nat × Nat) : It := .cells p.2 115 ((pg c p.1).map bV)
def hB (bl : List (Nat × Nat)) : Int → Option Nat := fun x => (bl.find? fun p => decide ((p.1 : Int) = x)).map (·.2)
def mI (g : Nat) (bl : List (Nat × Nat)) : It := .map Try.prog 3 (Value.int .i64) pE g bl.length (hB bl)
def fI (gf gm : Nat) (L : Nat) : It := .cells gf 74 [.map (some gm), .int .i64 (L : Int)]
/-- the blocks are those of the pages that are there -/
structure PK (bl : List (Nat × Nat)) (P : Nat → Bool) : Prop where
  nd : (bl.map (·.1)).Nodup
  mem : ∀ k, P k = true ↔ k ∈ bl.map (·.1)
  lt : ∀ k, P k = true → k < 256
theorem nodup_lt : ∀ (n : Nat) (l : List Nat), l.Nodup → (∀ x ∈ l, x < n) → l.length ≤ n := by
  intro n
  induction n with
  | zero =>
    intro l _ h
    cases l with
    | nil => simp
    | cons x t => have := h x (by simp); omega
  | succ n ih =>
    intro l hn h
    by_cases hm : n ∈ l
    · have h1 := ih (l.erase n) (hn.erase _) (fun x hx => by
        have h2 := (hn.mem_erase_iff).1 hx
        have h3 := h x h2.2
        have h4 := h2.1
        omega)
      have h2 := List.length_erase_of_mem hm
      omega
    · have h1 := ih l hn (fun x hx => by
        have h3 := h x hx
        have : x ≠ n := fun e => hm (e ▸ hx)
        omega)
      omega
theorem PK.len {bl : List (Nat × Nat)} {P : Nat → Bool} (h : PK bl P) : bl.length ≤ 256 := by
  have := nodup_lt 256 (bl.map (·.1)) h.nd (fun x hx => h.lt x ((h.mem x).2 hx))
  rwa [List.length_map] at this
theorem PK.nil : PK [] (fun _ => false) := ⟨by simp, by simp, by simp⟩
theorem PK.find {bl : List (Nat × Nat)} {P : Nat → Bool} (h : PK bl P) {k : Nat} (hk : P k = true) : ∃ (j g : Nat), bl[j]? = some (k, g) ∧ hB bl (k : Int) = some g := by
  have hm := (h.mem k).1 hk
  obtain ⟨p, hp, hpk⟩ := List.mem_map.1 hm
  cases hf : bl.find? (fun p => decide ((p.1 : Int) = (k : Int))) with
  | none =>
    have := List.find?_eq_none.1 hf p hp
    exact absurd (decide_eq_true (by omega)) this
  | some q =>
    have h1 := List.find?_some hf
    have h2 := List.mem_of_find?_eq_some hf
    obtain ⟨j, hj⟩ := List.getElem?_of_mem h2
    have e : q.1 = k := by have := of_decide_eq_true h1; omega
    refine ⟨j, q.2, ?_, ?_⟩
    · rw [hj, ← e]
    · unfold hB
      rw [hf]
      rfl
theorem PK.none {bl : List (Nat × Nat)} {P : Nat → Bool} (h : PK bl P) {k : Nat} (hk : P k = false) : hB bl (k : Int) = none := by
  unfold hB
  rw [List.find?_eq_none.2 (fun p hp e => by
    have h1 : p.1 = k := by have := of_decide_eq_true e; omega
    have h2 := (h.mem k).2 (List.mem_map.2 ⟨p, hp, h1⟩)
    rw [hk] at h2
    cases h2)]
  rfl
theorem PK.add {bl : List (Nat × Nat)} {P : Nat → Bool} (h : PK bl P) {k g : Nat} (hk : P k = false) (hl : k < 256) : PK (bl ++ [(k, g)]) (padd P k) ∧ mup (hB bl) (k : Int) g = hB (bl ++ [(k, g)]) := by
  have hno : k ∉ bl.map (·.1) := fun hm => by
    have := (h.mem k).2 hm
    rw [hk] at this
    cases this
  refine ⟨⟨?_, fun j => ?_, fun j hj => ?_⟩, ?_⟩
  · rw [List.map_append]
    refine List.nodup_append.2 ⟨h.nd, by simp, fun x hx y hy e => ?_⟩
    simp at hy
    subst hy
    subst e
    exact hno hx
  · unfold padd
    rw [Bool.or_eq_true, h.mem, decide_eq_true_eq, List.map_append, List.mem_append]
    simp
  · unfold padd at hj
    rw [Bool.or_eq_true, decide_eq_true_eq] at hj
    rcases hj with hj | rfl
    · exact h.lt j hj
    · exact hl
  · funext x
    unfold mup
    by_cases e : x = (k : Int)
    · subst e
      rw [if_pos rfl]
      have h1 := h.none hk
      unfold hB at h1 ⊢
      rw [List.find?_append]
      cases hf : bl.find? (fun p => decide ((p.1 : Int) = (k : Int))) with
      | none => simp
      | some q => rw [hf] at h1; cases h1
    · rw [if_neg e]
      unfold hB
      rw [List.find?_append]
      cases hf : bl.find? (fun p => decide ((p.1 : Int) = x)) with
      | none => simp [show ¬ (k : Int) = x from fun e2 => e e2.symm]
      | some q => simp
theorem PK.same {bl : List (Nat × Nat)} {P : Nat → Bool} (h : PK bl P) {k : Nat} (hk : P k = true) : PK bl (padd P k) := by
  have e : padd P k = P := by
    funext j
    unfold padd
    by_cases hj : j = k
    · subst hj; rw [hk]; rfl
    · rw [decide_eq_false hj, Bool.or_false]
  rw [e]
  exact h
/-- the pages behind a store of one byte -/
theorem pages_upd {bl : List (Nat × Nat)} (hnd : (bl.map (·.1)).Nodup) {c : Nat → Nat} {x v j g : Nat} (hj : bl[j]? = some (x / 16, g)) :
    (bl.map (pI c)).set j (.cells g 115 (((pg c (x / 16)).map bV).set (x % 16) (bV v))) = bl.map (pI (upd c x v)) := by
  refine List.ext_getElem? fun i => ?_
  rw [List.getElem?_set, List.length_map]
  have hjl := (List.getElem?_eq_some_iff.1 hj).1
  by_cases e : j = i
  · subst e
    rw [if_pos rfl, if_pos hjl, List.getElem?_map, hj]
    show _ = some (It.cells g _ ((pg (upd c x v) (x / 16)).map bV))
    rw [pg_same, List.map_set]
  · rw [if_neg e, List.getElem?_map, List.getElem?_map]
    cases hi : bl[i]? with
    | none => rfl
    | some p =>
      have hne : p.1 ≠ x / 16 := fun e2 => by
        have h1 : (bl.map (·.1))[i]? = some (x / 16) := by rw [List.getElem?_map, hi, ← e2]; rfl
        have h2 : (bl.map (·.1))[j]? = some (x / 16) := by rw [List.getElem?_map, hj]; rfl
        have hil := (List.getElem?_eq_some_iff.1 hi).1
        exact e ((List.getElem?_inj (by rw [List.length_map]; exact hjl) hnd).1 (h2.trans h1.symm))
      show some (It.cells p.2 _ ((pg c p.1).map bV)) = some (It.cells p.2 _ ((pg (upd c x v) p.1).map bV))
      rw [pg_other _ _ _ _ hne]
theorem pageZ : (Try.prog.info? 115).map (·.size) = some 16 := by kernel_rfl
theorem pz (w : World) : (zeroValue 113).run Try.prog w = .ok (.pointer none) w := by kernel_rfl
theorem kintL : KMk Try.prog 3 (Value.int .i64) (fun x => (Lit.int .i64 x).wf = true) := kmk_int Try.underlying3
theorem wf_nat {k : Nat} (h : k < 4096) : (Lit.int .i64 (k : Int)).wf = true := by
  simp [Lit.wf, IntKind.min, IntKind.max, IntKind.signed, IntKind.bits]
  omega
/-- the file in memory -/
def FL (gf gm L : Nat) (bl : List (Nat × Nat)) (c : Nat → Nat) (J : List It) : List It := fI gf gm L :: mI gm bl :: (bl.map (pI c) ++ J)
theorem fl_at {gf gm L : Nat} {bl : List (Nat × Nat)} {c : Nat → Nat} {J : List It} {j k g : Nat} (hj : bl[j]? = some (k, g)) : (FL gf gm L bl c J)[j + 2]? = some (.cells g 115 ((pg c k).map bV)) := by
  have hl := (List.getElem?_eq_some_iff.1 hj).1
  unfold FL
  rw [List.getElem?_cons_succ, List.getElem?_cons_succ, List.getElem?_append_left (by rw [List.length_map]; exact hl), List.getElem?_map, hj]
  rfl
theorem fl_set {gf gm L : Nat} {bl : List (Nat × Nat)} (hnd : (bl.map (·.1)).Nodup) {c : Nat → Nat} {J : List It} {x v j g : Nat} (hj : bl[j]? = some (x / 16, g)) :
    (FL gf gm L bl c J).set (j + 2) (.cells g 115 (((pg c (x / 16)).map bV).set (x % 16) (bV v))) = FL gf gm L bl (upd c x v) J := by
  have hl := (List.getElem?_eq_some_iff.1 hj).1
  unfold FL
  rw [List.set_cons_succ, List.set_cons_succ, List.set_append_left _ _ (by rw [List.length_map]; exact hl), pages_upd hnd hj]

theorem at_last (L : List It) (x : It) : (L ++ [x])[L.length]? = some x := by simp
theorem set_last (L : List It) (x y : It) : (L ++ [x]).set L.length y = L ++ [y] := by simp
theorem quo16 (x : Nat) : Int.tdiv (x : Int) 16 = ((x / 16 : Nat) : Int) := by
  rw [Int.tdiv_eq_ediv_of_nonneg (by omega)]
  rfl
theorem rem16 (x : Nat) : Int.tmod (x : Int) 16 = ((x % 16 : Nat) : Int) := by
  rw [Int.tmod_eq_emod_of_nonneg (by omega)]
  rfl
def rd (c : Nat → Nat) (a k : Nat) : List Nat := (List.range k).map fun j => c (a + j)
theorem rd_len (c : Nat → Nat) (a k : Nat) : (rd c a k).length = k := by simp [rd]
theorem rd_snoc (c : Nat → Nat) (a k : Nat) : rd c a (k + 1) = rd c a k ++ [c (a + k)] := by simp [rd, List.range_succ]
theorem byte_info : (Try.prog.info? 5).map (fun i => (i.zero, i.size, i.bytes)) = some (some (.int .u8 0), 1, 1) := by kernel_rfl

set_option maxRecDepth 100000 in
set_option maxHeartbeats 3200000 in
/-- file.read -/
theorem fread_any (gf gm : Nat) (s : Sf) (bl : List (Nat × Nat)) (J : List It) (a m : Nat) (w0 w : World) (hs : Sep w0 w (FL gf gm s.L bl s.c J)) (hk : PK bl s.P) (ho : s.Ok) (ha : a ≤ 9223372036854775807) (hm : m ≤ 9223372036854775807) :
    Calls Try.prog 27 #[.pointer (some ⟨gf, 0, none⟩), .int .i64 (a : Int), .int .i64 (m : Int)] w (fun e w' => ∃ (A : Option Addr) (c n : Nat), e = .returned (.slice A n c) ∧ n = (s.read a m).length ∧ Sep w0 w' (FL gf gm s.L bl s.c J ++ [.row 5 1 (.slice A n c) n ((s.read a m).flatMap bcell)])) := by
  obtain ⟨i0, hi, hz0, hz1, hz2⟩ := info_parts byte_info
  have HS0 := Lib.hid (hs.nilRow 5 1 none)
  have HK := Lib.hid hk
  have HO := Lib.hid ho
  have hL := ho.len
  clear hs hk ho
  obtain ⟨N, hN⟩ : ∃ N, N = min m (s.L - a) := ⟨_, rfl⟩
  have hrd : s.read a m = rd s.c a N := by rw [hN]; rfl
  rw [hrd, rd_len]
  have HN := Lib.hid hN
  clear hN hrd
  obtain ⟨Q, hQ⟩ : ∃ Q, Q = FL gf gm s.L bl s.c J := ⟨_, rfl⟩
  rw [← hQ] at HS0 ⊢
  have HQ := Lib.hid hQ
  clear hQ
  go_enter Try.func27, Try.ntmps27
  go_wp2
  go_loopg [7, 8] N (fun g v i wr => ∃ (k : Nat) (A : Option Addr) (c : Nat), k ≤ N ∧ g = N - k ∧ v = .slice A k c ∧ i = .int .i64 ((a + k : Nat) : Int) ∧ Sep w0 wr (Q ++ [.row 5 1 (.slice A k c) k ((rd s.c a k).flatMap bcell)]))
  case atStart => exact ⟨0, none, 0, Nat.zero_le _, rfl, rfl, rfl, HS0.out⟩
  case round =>
    clear HS0
    obtain ⟨k, A, c, hkN, rfl, rfl, rfl, hs⟩ := hrel
    have HS := Lib.hid hs
    clear hs
    have hs2 := HS.out
    rw [HQ.out] at hs2
    have f0 := hs2.cell 0 rfl (k := 0) rfl
    have f1 := hs2.cell 0 rfl (k := 1) rfl
    obtain ⟨X, hX⟩ : ∃ X, X = a + k := ⟨_, rfl⟩
    rw [← hX]
    have HX := Lib.hid hX
    have HX1 : Hid ((X : Int) + 1 = ((a + (k + 1) : Nat) : Int)) := Lib.hid (by omega)
    have hNX : k < N ↔ X < s.L ∧ k < m := by have := HN.out; omega
    have HNX := Lib.hid hNX
    have hkX : k ≤ X := by omega
    clear hX hNX
    by_cases hlt : X < s.L
    · have b1 : (X : Int) < (s.L : Int) := by omega
      by_cases hlt2 : k < m
      · have hkN2 : k < N := HNX.out.2 ⟨hlt, hlt2⟩
        have q1 := quo16 X
        have q2 := rem16 X
        have q3 : (X : Int) / 16 = ((X / 16 : Nat) : Int) := rfl
        have q4 : (X : Int) % 16 = ((X % 16 : Nat) : Int) := rfl
        have hK : X / 16 < 4096 := by omega
        have hlk := hs2.look 1 rfl kintL (wf_nat hK) Try.underlying72 (pz wr)
        have hpos : X + 1 ≤ 4096 := by omega
        cases hP : s.P (X / 16) with
        | true =>
          obtain ⟨j, g, hj, hh⟩ := HK.out.find hP
          rw [hh] at hlk
          simp only [Option.elim, pE] at hlk
          have hc := hs2.cell (j + 2) (by rw [List.getElem?_append_left (by have := (List.getElem?_eq_some_iff.1 (fl_at (gf := gf) (gm := gm) (L := s.L) (c := s.c) (J := J) hj)).1; exact this)]; exact fl_at hj) (k := X % 16) (v := bV (s.c X)) (by
            rw [List.getElem?_map, pg_at _ _ _ (by omega), show 16 * (X / 16) + X % 16 = X by omega]
            rfl)
          unfold bV at hc
          clear hs2 hj hh hP
          have r0 : X % 16 < 16 := by omega
          generalize X % 16 = r at q2 q4 hc r0
          generalize X / 16 = K at q1 q3 hlk hK
          have hnew := Lib.hid (Rd.of_own (own_new wr 5 #[.int .u8 (s.c X : Int)] 1 1 rfl (by simp [maxLen]) (Nat.le_refl _)))
          go_wp2_with (at_builtin; refine wpList_append_sep (HS.out.alloc _) Q.length rfl (.tmp 41) (.tmp 43) 75 rfl 5 i0 (.int .u8 0) 1 1 Try.underlying75 hi hz0 hz1 hz2 rfl (by omega) _ k _ rfl (at_last _ _) _ _ 1 1 _ rfl hnew.out (by simp [Value.oneCell']) (by simp only [maxLen]; omega) (by omega) ?_; intro A9 c9 w9 hc9 hs9 H9'; rw [set_last] at H9'; have H9 := Lib.hid H9'; clear H9')
          go_roundg (N - (k + 1))
          case measure => omega
          case rel =>
            refine ⟨k + 1, A9, c9, by omega, rfl, rfl, int_eq HX1.out, ?_⟩
            rw [rd_snoc, List.flatMap_append, ← HX.out]
            exact H9.out
        | false =>
          have hz : Hid (s.c X = 0) := Lib.hid (HO.out.held X hP)
          rw [HK.out.none hP] at hlk
          simp only [Option.elim] at hlk
          clear hs2 hP
          generalize X / 16 = K at q1 q3 hlk hK
          clear q2 q4
          have hnew := Lib.hid (Rd.of_own (own_new wr 5 #[.int .u8 0] 1 1 rfl (by simp [maxLen]) (Nat.le_refl _)))
          go_wp2_with (at_builtin; refine wpList_append_sep (HS.out.alloc _) Q.length rfl (.tmp 41) (.tmp 43) 75 rfl 5 i0 (.int .u8 0) 1 1 Try.underlying75 hi hz0 hz1 hz2 rfl (by omega) _ k _ rfl (at_last _ _) _ _ 1 1 _ rfl hnew.out (by simp [Value.oneCell']) (by simp only [maxLen]; omega) (by omega) ?_; intro A9 c9 w9 hc9 hs9 H9'; rw [set_last] at H9'; have H9 := Lib.hid H9'; clear H9')
          go_roundg (N - (k + 1))
          case measure => omega
          case rel =>
            refine ⟨k + 1, A9, c9, by omega, rfl, rfl, int_eq HX1.out, ?_⟩
            rw [rd_snoc, List.flatMap_append, ← HX.out, hz.out]
            exact H9.out
      · obtain rfl : k = N := by have := HNX.out; omega
        clear hs2
        have b2 : ¬ (k : Int) < (m : Int) := by omega
        go_wp2
        go_ret
        exact ⟨A, c, k, rfl, rfl, HS.out⟩
    · obtain rfl : k = N := by have := HNX.out; omega
      have b1 : ¬ (X : Int) < (s.L : Int) := by omega
      clear hs2
      go_wp2
      go_ret
      exact ⟨A, c, k, rfl, rfl, HS.out⟩
end Fl
end Go.Proofs.Ytfljbiobiobamaa
