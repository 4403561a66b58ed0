/-
  Walks of slices.Index and Contains at integers, of bad.Find, check and Number, and of the reference's EGood. Conditions: none.
-/
import Derived.Test.YtakmfjnfkjdbfabBdW
import Derived.Test.YtakmfjnfkjdbfabShelfB
namespace Go.Proofs.Ytakmfjnfkjdbfab
open Go.RowKit
set_option linter.unusedVariables false
namespace Bd

theorem first_idx {x : Int} : ∀ (l : List Int), x ∈ l → ∃ i : Nat, l[i]? = some x ∧ ∀ j, j < i → l[j]? ≠ some x
  | [], h => by simp at h
  | y :: t, h => by
    by_cases hy : y = x
    · exact ⟨0, by simp [hy], fun j hj => by omega⟩
    · obtain ⟨i, h1, h2⟩ := first_idx t (by
        rcases List.mem_cons.1 h with rfl | h
        · exact absurd rfl hy
        · exact h)
      refine ⟨i + 1, by simpa using h1, fun j hj => ?_⟩
      cases j with
      | zero => simpa using hy
      | succ j => simpa using h2 j (by omega)
/-- r is the first place of x, or -1 -/
def FirstAt (l : List Int) (x r : Int) : Prop := (∃ i : Nat, r = (i : Int) ∧ l[i]? = some x ∧ ∀ j, j < i → l[j]? ≠ some x) ∨ (r = -1 ∧ x ∉ l)
set_option maxHeartbeats 800000 in
theorem index_any (A : Option Addr) (n c : Nat) (l : List Int) (x r : Int) (w : World) (hr : Rd w w.heap.size 1 A n (l.flatMap icell)) (hl : l.length = n) (hn : n ≤ 9223372036854775807) (hx : FirstAt l x r) :
    Calls Try.prog 40 #[.slice A n c, .int .i64 x] w (Ret w (.int .i64 r)) := by
  have HR := Lib.hid hr
  have HL := Lib.hid hl
  have HX := Lib.hid hx
  clear hr hl hx
  go_enter Try.func40, Try.ntmps40
  go_wp2
  go_loopg [8] n (fun g i wr => ∃ (k : Nat), k ≤ n ∧ g = n - k ∧ i = .int .i64 k ∧ Hid (∀ j, j < k → l[j]? ≠ some x) ∧ Below w.heap.size w wr)
  case atStart => exact ⟨0, Nat.zero_le _, rfl, rfl, Lib.hid (fun j h => by omega), Below.refl _ _⟩
  case round =>
    obtain ⟨k, hk, rfl, rfl, HF, hB⟩ := hrel
    by_cases hlt : k < n
    · obtain ⟨b, off, rfl, hb, hc⟩ := HR.out.at_ icell_len (by omega)
      obtain ⟨y, hy⟩ : ∃ y, l[k]? = some y := ⟨_, List.getElem?_eq_getElem (by rw [HL.out]; exact hlt)⟩
      have d0 := int_at hb hB hc hy
      have i0 : (0 : Int) ≤ (k : Int) := by omega
      have i1 : (k : Int) < (n : Int) := by omega
      have HY := Lib.hid hy
      clear hc hy
      cases ht : (x == y) with
      | true =>
        have HE : Hid ((k : Int) = r) := Lib.hid (by
          obtain rfl : x = y := by simpa using ht
          rcases HX.out with ⟨i, h1, h2, h3⟩ | ⟨h1, h2⟩
          · rcases Nat.lt_trichotomy i k with h | h | h
            · exact absurd h2 (HF.out i h)
            · rw [h1, h]
            · exact absurd HY.out (h3 k h)
          · exact absurd (List.mem_of_getElem? HY.out) h2)
        go_wp2
        go_ret
        exact Ret.mk (int_eq HE.out) hB
      | false =>
        have HF2 : Hid (∀ j, j < k + 1 → l[j]? ≠ some x) := Lib.hid (fun j hj => by
          by_cases hjk : j = k
          · subst hjk
            rw [HY.out]
            intro e
            cases e
            simp at ht
          · exact HF.out j (by omega))
        go_wp2
        go_roundg (n - (k + 1))
        case measure => omega
        case rel => exact ⟨k + 1, by omega, rfl, by go_num, HF2, hB⟩
    · have HE : Hid ((-1 : Int) = r) := Lib.hid (by
        rcases HX.out with ⟨i, h1, h2, h3⟩ | ⟨h1, h2⟩
        · have := (List.getElem?_eq_some_iff.1 h2).1
          have := HL.out
          exact absurd h2 (HF.out i (by omega))
        · exact h1.symm)
      go_wp2
      go_ret
      exact Ret.mk (int_eq HE.out) hB
set_option maxHeartbeats 800000 in
theorem contains_any (A : Option Addr) (n c : Nat) (l : List Int) (x : Int) (b : Bool) (w : World) (hr : Rd w w.heap.size 1 A n (l.flatMap icell)) (hl : l.length = n) (hn : n ≤ 9223372036854775807) (hb : b = true ↔ x ∈ l) :
    Calls Try.prog 37 #[.slice A n c, .int .i64 x] w (Ret w (.bool b)) := by
  obtain ⟨r, hf, hrb⟩ : ∃ r, FirstAt l x r ∧ Hid (decide (0 ≤ r) = b) := by
    by_cases hm : x ∈ l
    · obtain ⟨i, h1, h2⟩ := first_idx l hm
      exact ⟨i, .inl ⟨i, rfl, h1, h2⟩, Lib.hid (by rw [hb.2 hm]; simp)⟩
    · refine ⟨-1, .inr ⟨rfl, hm⟩, Lib.hid ?_⟩
      cases b with
      | false => rfl
      | true => exact absurd (hb.1 rfl) hm
  have cI := Lib.hid (index_any A n c l x r w hr hl hn hf)
  clear hr hl hf hb
  go_enter Try.func37, Try.ntmps37
  go_wp2_with fail
  refine cI.out.mono ?_; rintro en w1 ⟨rfl, hb1⟩
  go_wp2
  go_ret
  exact Ret.mk (bool_eq hrb.out) hb1

set_option maxRecDepth 100000 in
set_option maxHeartbeats 1600000 in
theorem egood_any (A : Option Addr) (n c K : Nat) (l : List Int) (w : World) (hr : Rd w w.heap.size 1 A n (l.flatMap icell)) (hl : l.length = n) (hn : n ≤ 9223372036854775807) (hK : K ≤ 4096) :
    Calls Try.prog 36 #[.int .i64 (K : Int), .slice A n c] w (SliceRet w 3 1 (good l K).length ((good l K).flatMap icell)) := by
  obtain ⟨ti, hti, t0, t1, t2⟩ := info_parts int_info
  have cC := Lib.hid (fun (x : Int) (b : Bool) V (hV : Below w.heap.size w V) (hb : b = true ↔ x ∈ l) => contains_any A n c l x b V (hr.later hV) hl hn hb)
  have S0 := Lib.hid ((Sep.nil_ w).nilRow 3 1 none)
  clear hr hl
  go_enter Try.func36, Try.ntmps36
  go_wp2
  go_loopg [5, 8] K (fun g v5 i wr => ∃ (k m : Nat) (A5 : Option Addr) (c5 : Nat), k ≤ K ∧ m ≤ k ∧ g = K - k ∧ i = .int .i64 k ∧ v5 = .slice A5 m c5 ∧ m ≤ c5 ∧ Hid (m = (good l k).length) ∧ Sep w wr [.row 3 1 (.slice A5 m c5) m ((good l k).flatMap icell)])
  case atStart => exact ⟨0, 0, none, 0, Nat.zero_le _, Nat.le_refl _, rfl, rfl, rfl, Nat.le_refl _, Lib.hid rfl, S0.out⟩
  case round =>
    clear S0
    obtain ⟨k, m, A5, c5, hk, hmk, rfl, rfl, rfl, hmc, HM, hs⟩ := hrel
    have HS := Lib.hid hs
    clear hs
    by_cases hlt : k < K
    · have i1 : (k : Int) < (K : Int) := by omega
      cases hc : l.contains (k : Int) with
      | true =>
        have cK := Lib.hid (cC.out (k : Int) true wr HS.out.below ⟨fun _ => by simpa using hc, fun _ => rfl⟩)
        have HG : Hid (good l (k + 1) = good l k) := Lib.hid (by rw [good, if_pos hc])
        clear hc
        go_wp2_with fail
        refine cK.out.mono ?_; rintro en w1 ⟨rfl, hb1⟩
        go_wp2
        go_roundg (K - (k + 1))
        case measure => omega
        case rel => exact ⟨k + 1, m, A5, c5, by omega, by omega, rfl, by go_num, rfl, hmc, Lib.hid (by rw [HG.out]; exact HM.out), by rw [HG.out]; exact HS.out.later hb1⟩
      | false =>
        have cK := Lib.hid (cC.out (k : Int) false wr HS.out.below ⟨fun h => (by cases h), fun h => by rw [show l.contains (k : Int) = true by simpa using h] at hc; cases hc⟩)
        have HG : Hid (good l (k + 1) = good l k ++ [(k : Int)]) := Lib.hid (by rw [good, if_neg (by rw [hc]; decide)])
        clear hc
        go_wp2_with fail
        refine cK.out.mono ?_; rintro en w1 ⟨rfl, hb1⟩
        have HS1 := Lib.hid (HS.out.later hb1)
        have hnew := Lib.hid (Rd.of_own (own_new w1 3 #[.int .i64 (k : Int)] 1 1 rfl (by simp [maxLen]) (Nat.le_refl _)))
        clear HS hb1 cK
        go_wp2_with (at_builtin; refine wpList_append_sep (HS1.out.alloc _) 0 rfl (.tmp 15) (.tmp 17) 24 rfl 3 ti (.int .i64 0) 1 8 Try.underlying24 hti t0 t1 t2 rfl (by omega) _ m _ rfl rfl _ _ 1 1 _ rfl hnew.out (by simp [Value.oneCell']) (by simp only [maxLen]; omega) (by omega) ?_; intro A8 c8 w8 hc8 hs8 H8)
        go_roundg (K - (k + 1))
        case measure => omega
        case rel => exact ⟨k + 1, m + 1, A8, c8, by omega, by omega, rfl, by go_num, rfl, hc8, Lib.hid (by rw [HG.out, List.length_append, HM.out]; rfl), by rw [HG.out, List.flatMap_append]; exact H8⟩
    · obtain rfl : k = K := by omega
      go_wp2
      go_ret
      rw [← HM.out]
      exact ⟨A5, c5, hmc, rfl, HS.out⟩

theorem adv_lt {B n : Int} {l : List Int} (hok : rightB B l = true) (hn0 : 0 ≤ n) (hn : n < B - l.length) : adv n l < B ∧ 0 ≤ adv n l := by
  simp only [rightB, Bool.and_eq_true] at hok
  obtain ⟨h1, h2⟩ := okL_spec l _ hok.2
  have h3 := adv_spec l n h1
  have h4 := cnt_le l (adv n l)
  have h5 := adv_ge l n
  omega

theorem right_facts {B : Int} {l : List Int} (h : rightB B l = true) : ∃ K : Nat, B = (K : Int) ∧ K ≤ 4096 ∧ l.Pairwise (· < ·) ∧ (∀ x ∈ l, 0 ≤ x ∧ x < (K : Int)) ∧ l.length ≤ K ∧ ((good l K).length : Int) = (K : Int) - l.length := by
  simp only [rightB, Bool.and_eq_true, decide_eq_true_eq] at h
  obtain ⟨⟨h1, h2⟩, h3⟩ := h
  obtain ⟨K, rfl⟩ := Int.eq_ofNat_of_zero_le h1
  obtain ⟨h4, h5⟩ := okL_spec l _ h3
  have h6 : ∀ x ∈ l, 0 ≤ x ∧ x < (K : Int) := fun x hx => ⟨by have := (h5 x hx).1; omega, (h5 x hx).2⟩
  have h7 := good_len h4 (fun x hx => (h6 x hx).1) K
  rw [cnt_all l (K : Int) (fun x hx => (h6 x hx).2)] at h7
  exact ⟨K, rfl, by omega, h4, h6, by omega, h7⟩
def FindRet (w : World) (r e : Int) : Ending → World → Prop := Ret w (.tuple #[.int .i64 r, .int .i64 e])
set_option maxRecDepth 100000 in
set_option maxHeartbeats 1600000 in
theorem find_any (A : Option Addr) (n c : Nat) (B x r e : Int) (l : List Int) (w : World) (hr : Rd w w.heap.size 1 A n (l.flatMap icell)) (hl : l.length = n) (hn : n ≤ 9223372036854775807)
    (hx : (rightB B l = false ∧ r = 0 ∧ e = 1) ∨ (rightB B l = true ∧ (x < 0 ∨ B - n ≤ x) ∧ r = 0 ∧ e = 3) ∨ (rightB B l = true ∧ 0 ≤ x ∧ x < B - n ∧ r = adv x l ∧ e = 0)) :
    Calls Try.prog 31 #[.int .i64 B, .slice A n c, .int .i64 x] w (Ret w (.tuple #[.int .i64 r, .int .i64 e])) := by
  have cR := Lib.hid (right_is A n c B l w hr hl hn)
  have HR := Lib.hid hr
  have HL := Lib.hid hl
  clear hr hl
  rcases hx with ⟨h1, rfl, rfl⟩ | ⟨h1, h2, rfl, rfl⟩ | ⟨h1, h2, h3, rfl, rfl⟩
  · rw [h1] at cR
    go_enter Try.func31, Try.ntmps31
    go_wp2_with fail
    refine cR.out.mono ?_; rintro en w1 ⟨rfl, hb1⟩
    go_wp2
    refine bodyPost_ret (v := .tuple #[.int .i64 0, .int .i64 1]) (by simp [results, Try.results31]) rfl ?_
    exact Ret.mk rfl hb1
  · have hBB : 0 ≤ B ∧ B ≤ 4096 := by simp [rightB] at h1; exact h1.1
    have hn4 : (n : Int) ≤ 4096 := by
      obtain ⟨K, _, hK, _, _, hlk, _⟩ := right_facts h1
      have := HL.out
      omega
    rw [h1] at cR
    clear h1
    rcases h2 with h2 | h2
    · go_enter Try.func31, Try.ntmps31
      go_wp2_with fail
      refine cR.out.mono ?_; rintro en w1 ⟨rfl, hb1⟩
      go_wp2
      refine bodyPost_ret (v := .tuple #[.int .i64 0, .int .i64 3]) (by simp [results, Try.results31]) rfl ?_
      exact Ret.mk rfl hb1
    · by_cases h3 : x < 0
      all_goals
        go_enter Try.func31, Try.ntmps31
        go_wp2_with fail
        refine cR.out.mono ?_; rintro en w1 ⟨rfl, hb1⟩
        go_wp2
        refine bodyPost_ret (v := .tuple #[.int .i64 0, .int .i64 3]) (by simp [results, Try.results31]) rfl ?_
        exact Ret.mk rfl hb1
  · obtain ⟨hlt, hge⟩ := adv_lt (B := B) (l := l) h1 h2 (by rw [HL.out]; exact h3)
    have hBB : 0 ≤ B ∧ B ≤ 4096 := by simp [rightB] at h1; exact h1.1
    have hn4 : (n : Int) ≤ 4096 := by
      obtain ⟨K, _, hK, _, _, hlk, _⟩ := right_facts h1
      have := HL.out
      omega
    obtain ⟨r, hr⟩ : ∃ r, r = adv x l := ⟨_, rfl⟩
    rw [← hr] at hlt hge ⊢
    have HRR := Lib.hid hr
    rw [h1] at cR
    have m1 : ¬ x < 0 := by omega
    have m2 : ¬ B - n ≤ x := by omega
    clear h1 hr
    go_enter Try.func31, Try.ntmps31
    go_wp2_with fail
    refine cR.out.mono ?_; rintro en w1 ⟨rfl, hb1⟩
    go_wp2
    go_loopg [2, 26] n (fun g v2 i wr => ∃ (k : Nat) (cur : Int), k ≤ n ∧ g = n - k ∧ i = .int .i64 k ∧ v2 = .int .i64 cur ∧ 0 ≤ cur ∧ cur ≤ r ∧ Hid (r = adv cur (l.drop k)) ∧ Below w.heap.size w wr)
    case atStart => exact ⟨0, x, Nat.zero_le _, rfl, rfl, rfl, h2, by rw [HRR.out]; exact adv_ge l x, Lib.hid HRR.out, hb1⟩
    case round =>
      obtain ⟨k, cur, hk, rfl, rfl, rfl, hc0, hc1, HA, hB⟩ := hrel
      by_cases hlt' : k < n
      · obtain ⟨b, off, rfl, hb, hc⟩ := HR.out.at_ icell_len (by omega)
        obtain ⟨y, hy⟩ : ∃ y, l[k]? = some y := ⟨_, List.getElem?_eq_getElem (by rw [HL.out]; exact hlt')⟩
        have d0 := (int_at hb (Below.refl _ _) hc hy)
        have d1 := (hB.cell hb).trans d0
        have i0 : (0 : Int) ≤ (k : Int) := by omega
        have i1 : (k : Int) < (n : Int) := by omega
        have HS : Hid (r = if y ≤ cur then adv (cur + 1) (l.drop (k + 1)) else adv cur (l.drop (k + 1))) := Lib.hid (by rw [HA.out, drop_at hy]; rfl)
        clear hc hy d0
        by_cases hyc : y ≤ cur
        · have HN : Hid (r = adv (cur + 1) (l.drop (k + 1))) := Lib.hid (by have := HS.out; rwa [if_pos hyc] at this)
          have hle : cur + 1 ≤ r := by rw [HN.out]; exact adv_ge _ _
          go_wp2
          go_roundg (n - (k + 1))
          case measure => omega
          case rel => exact ⟨k + 1, cur + 1, by omega, rfl, by go_num, rfl, by omega, hle, HN, hB⟩
        · have HN : Hid (r = adv cur (l.drop (k + 1))) := Lib.hid (by have := HS.out; rwa [if_neg hyc] at this)
          go_wp2
          go_roundg (n - (k + 1))
          case measure => omega
          case rel => exact ⟨k + 1, cur, by omega, rfl, by go_num, rfl, hc0, hc1, HN, hB⟩
      · have HE : Hid (cur = r) := Lib.hid (by rw [HA.out, List.drop_of_length_le (by rw [HL.out]; omega)]; rfl)
        go_wp2
        refine bodyPost_ret (v := .tuple #[.int .i64 cur, .int .i64 0]) (by simp [results, Try.results31]) rfl ?_
        exact ⟨by rw [HE.out], hB⟩

theorem bs_any (A : Option Addr) (n c : Nat) (l : List Int) (x : Int) (w : World) (hr : Rd w w.heap.size 1 A n (l.flatMap icell)) (hl : l.length = n) (hn : n < 4611686018427387904) (hs : l.Pairwise (· < ·)) :
    Calls Try.prog 81 #[.slice A n c, .int .i64 x] w (Ret w (.tuple #[.int .i64 (cnt l x : Nat), .bool (l.contains x)])) := by
  rcases Nat.eq_zero_or_pos n with h0 | h0
  · subst h0
    obtain rfl := List.eq_nil_of_length_eq_zero hl
    have h := Any.slices_BinarySearch_int_empty Try.lbs A c x w
    refine h.mono fun e w' ⟨he, hw⟩ => ⟨he, by rw [hw]; exact Below.refl _ _⟩
  · obtain ⟨b, off, rfl, hb, hc⟩ := hr.at_ icell_len h0
    have h := Any.slices_BinarySearch_int Try.lbs b off n c l x w (by omega) hn (fun j hj => by
      have := hc j 0 (l[j]'hj) _ (List.getElem?_eq_getElem hj) rfl
      rw [Nat.mul_one, Nat.add_zero] at this
      rw [this, List.getD_eq_getElem?_getD, List.getElem?_eq_getElem hj]
      rfl) (by rw [List.take_of_length_le (by omega)]; exact hs.imp (fun h => by omega))
    refine h.mono fun e w' ⟨he, q, hw⟩ => ⟨?_, by rw [hw]; exact below_drewN (Below.refl _ _) q⟩
    rw [he, List.take_of_length_le (by omega)]
    rfl

end Bd
end Go.Proofs.Ytakmfjnfkjdbfab
