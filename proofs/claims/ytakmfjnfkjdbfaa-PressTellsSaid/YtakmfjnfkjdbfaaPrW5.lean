/-
  Walk of the reference's VUnpack. Conditions: none.
-/
import Derived.Test.YtakmfjnfkjdbfaaPrW4
namespace Go.Proofs.Ytakmfjnfkjdbfaa
open Go.RowKit
set_option linter.unusedVariables false
namespace Pr

set_option maxRecDepth 100000 in
set_option maxHeartbeats 6400000 in
theorem vunpack_any (A : Option Addr) (n c : Nat) (l o : List Nat) (e0 : Nat) (w : World) (hr : Rd w w.heap.size 1 A n (l.flatMap bcell)) (hl : l.length = n) (hn : n ≤ 140737488355328) (hby : ∀ x ∈ l, x < 256) (hu : Un [] l o e0) :
    Calls Try.prog 19 #[.slice A n c] w (BytesRet w o (e0 : Int)) := by
  obtain ⟨ti, hti, t0, t1, t2⟩ := info_parts byte_info'
  have HR := Lib.hid hr
  have HL := Lib.hid hl
  have HU := Lib.hid hu
  have HBY := Lib.hid hby
  clear hr hl hu hby
  have S1 := Lib.hid ((Sep.nil_ w).nilRow 5 1 none)
  go_enter Try.func19, Try.ntmps19
  go_wp2
  go_loopg [4, 5] (n + 1) (fun q v4 v5 wr => ∃ (a no c4 : Nat) (A4 : Option Addr) (out : List Nat), a ≤ n ∧ q = n + 1 - a ∧ v5 = .int .i64 a ∧ v4 = .slice A4 no c4 ∧ no ≤ c4 ∧ no ≤ 4096 ∧ Hid (out.length = no) ∧ Hid (Un out (l.drop a) o e0) ∧ Sep w wr [.row 5 1 (.slice A4 no c4) no (out.flatMap bcell)])
  case atStart => exact ⟨0, 0, 0, none, [], Nat.zero_le _, rfl, rfl, rfl, Nat.le_refl _, by omega, Lib.hid rfl, HU, S1.out⟩
  case round =>
    clear S1 HU
    obtain ⟨a, no, c4, A4, out, ha, rfl, rfl, rfl, hc4, hno, HOL, HUN, hs⟩ := hrel
    have HS := Lib.hid hs
    clear hs
    by_cases hlt : a < n
    · have i0 : (0 : Int) ≤ (a : Int) := by omega
      have i1 : (a : Int) < (n : Int) := by omega
      obtain ⟨x, t, hd⟩ : ∃ x t, l.drop a = x :: t := by
        cases h : l.drop a with
        | nil =>
          have := congrArg List.length h
          rw [List.length_drop, HL.out] at this
          simp at this
          omega
        | cons x t => exact ⟨x, t, rfl⟩
      have hla : ∀ k, l[a + k]? = (x :: t)[k]? := fun k => by rw [← hd, List.getElem?_drop]
      have HLA := Lib.hid hla
      have hlen := congrArg List.length hd
      rw [List.length_drop, HL.out, List.length_cons] at hlen
      have hlen1 : a + t.length + 1 = n := by omega
      have HLEN := Lib.hid hlen1
      have hx8 : x < 256 := HBY.out x (List.mem_of_mem_drop (by rw [hd]; simp))
      obtain ⟨b, off, rfl, hb, hc⟩ := HR.out.at_ bcell_len (by omega)
      have e1 := byte_at (k := a) hb HS.out.below hc (by have := hla 0; simpa using this)
      have HC := Lib.hid hc
      have HUN2 : Hid (Un out (x :: t) o e0) := Lib.hid (by rw [← hd]; exact HUN.out)
      have HDD : Hid (∀ k, l.drop (a + 1 + k) = t.drop k) := Lib.hid (fun k => by rw [← List.drop_drop, ← List.drop_drop, hd]; rfl)
      obtain ⟨a1, HA1⟩ : ∃ a1 : Nat, Hid (a1 = a + 1) := ⟨_, Lib.hid rfl⟩
      have ka : (a : Int) + 1 = (a1 : Int) := by rw [HA1.out]; omega
      have kab : a1 ≤ n := by have := HA1.out; omega
      clear hd hla hlen hlen1 HUN hc
      by_cases hx : 128 ≤ x
      · have k1 : (127 : Int) < (x : Int) := by omega
        obtain ⟨q, HQ⟩ : ∃ q : Nat, Hid (q + 127 = x) := ⟨x - 127, Lib.hid (by omega)⟩
        have kq : (x : Int) - 127 = (q : Int) := by have := HQ.out; omega
        have kb : q ≤ 129 := by have := HQ.out; omega
        have HQ2 : Hid (x - 127 = q) := Lib.hid (by have := HQ.out; omega)
        cases t with
        | nil =>
          have k2 : (n : Int) ≤ (a1 : Int) := by have := HLEN.out; have := HA1.out; simp at *; omega
          obtain ⟨rfl, rfl⟩ : o = [] ∧ e0 = 1 := by
            have h1 := HUN2.out
            cases h1 with
            | short => exact ⟨rfl, rfl⟩
            | lit h2 _ _ _ => omega
            | litBig h2 _ _ => omega
          go_wp2
          refine bodyPost_ret (v := .tuple #[.slice none 0 0, .int .i64 1]) (by simp [results, Try.results19]) rfl ?_
          exact bytes_nil HS.out
        | cons y tt =>
          have k2 : ¬ (n : Int) ≤ (a1 : Int) := by have := HLEN.out; have := HA1.out; simp at *; omega
          have hy : l[a1]? = some y := by rw [HA1.out, HLA.out]; rfl
          have HY := Lib.hid hy
          have HAL : Hid (a1 < n) := Lib.hid (by omega)
          clear hy
          go_wp2
          go_loopg [4, 44] q (fun q' v4 i wr => ∃ (j nj cj : Nat) (Aj : Option Addr) (oj : List Nat), j ≤ q ∧ q' = q - j ∧ i = .int .i64 j ∧ v4 = .slice Aj nj cj ∧ nj ≤ cj ∧ Hid (nj = no + j) ∧ Hid (oj.length = nj) ∧ Hid (oj = out ++ List.replicate j y) ∧ Sep w wr [.row 5 1 (.slice Aj nj cj) nj (oj.flatMap bcell)])
          case atStart => exact ⟨0, no, c4, A4, out, Nat.zero_le _, rfl, rfl, rfl, hc4, Lib.hid rfl, HOL, Lib.hid (by simp), HS.out⟩
          case round =>
            clear HS e1
            obtain ⟨j, nj, cj, Aj, oj, hj, rfl, rfl, rfl, hcj, HNJ, HOJ, HOE, hs⟩ := hrel
            have HS := Lib.hid hs
            clear hs
            by_cases hjq : j < q
            · have e2 := byte_at (k := a1) hb HS.out.below HC.out HY.out
              have j1 : (j : Int) < (q : Int) := by omega
              have i2 : (0 : Int) ≤ (a1 : Int) := by omega
              have i3 : (a1 : Int) < (n : Int) := by have := HAL.out; omega
              have hb9 : nj ≤ 8192 := by have := HNJ.out; omega
              have hnew := Lib.hid (Rd.of_own (own_new wr 5 #[.int .u8 (y : Int)] 1 1 rfl (by simp [maxLen]) (Nat.le_refl _)))
              go_wp2_with ((at_builtin; refine wpList_append_sep (HS.out.alloc _) 0 rfl (.tmp 47) (.tmp 56) 33 rfl 5 ti (.int .u8 0) 1 1 Try.underlying33 hti t0 t1 t2 rfl (by omega) _ nj _ rfl rfl _ _ 1 _ _ rfl hnew.out (by first | exact bcell_one _ | (simp [Value.oneCell'])) (by simp only [maxLen]; omega) (by omega) ?_; intro A6 c6 w6 hc6 hs6 H6'; have H6 := Lib.hid H6'; clear H6'))
              have HB : Hid (Sep w w6 [.row 5 1 (.slice A6 (nj + 1) c6) (nj + 1) ((oj ++ [y]).flatMap bcell)]) := Lib.hid (by rw [List.flatMap_append]; exact H6.out)
              clear H6 HS hnew e2
              go_roundg (q - (j + 1))
              case measure => omega
              case rel => exact ⟨j + 1, nj + 1, c6, A6, oj ++ [y], by omega, rfl, by go_num, rfl, hc6, Lib.hid (by rw [HNJ.out]; omega), Lib.hid (by rw [List.length_append, HOJ.out]; rfl), Lib.hid (by rw [HOE.out, List.append_assoc, List.replicate_succ']), HB.out⟩
            · obtain rfl : j = q := by omega
              by_cases hbig : 4096 < nj
              · obtain ⟨rfl, rfl⟩ : o = [] ∧ e0 = 2 := by
                  have := HQ2.out
                  have h2 := HOL.out
                  have h3' := HNJ.out
                  have h1 := HUN2.out
                  cases h1 with
                  | short h3 _ => have := h3 hx; simp only [List.length_cons] at this; omega
                  | repBig => exact ⟨rfl, rfl⟩
                  | rep _ h3 _ => omega
                  | litBig h3 _ _ => omega
                  | lit h3 _ _ _ => omega
                have k3 : (4096 : Int) < (nj : Int) := by omega
                go_wp2
                refine bodyPost_ret (v := .tuple #[.slice none 0 0, .int .i64 2]) (by simp [results, Try.results19]) rfl ?_
                exact bytes_nil HS.out
              · have HUN3 : Hid (Un oj tt o e0) := Lib.hid (by
                  rw [HOE.out]
                  have h4 := HQ2.out
                  have h2 := HOL.out
                  have h3' := HNJ.out
                  have h1 := HUN2.out
                  cases h1 with
                  | short h3 _ => have := h3 hx; simp only [List.length_cons] at this; omega
                  | repBig _ h3 => omega
                  | rep _ _ h3 => rw [h4] at h3; exact h3
                  | litBig h3 _ _ => omega
                  | lit h3 _ _ _ => omega)
                have k3 : ¬ (4096 : Int) < (nj : Int) := by omega
                have hbn : nj ≤ 4096 := by omega
                obtain ⟨a2, HA2⟩ : ∃ a2 : Nat, Hid (a2 = a1 + 1) := ⟨_, Lib.hid rfl⟩
                have ka2 : (a1 : Int) + 1 = (a2 : Int) := by rw [HA2.out]; omega
                have HA2n : Hid (a2 ≤ n) := Lib.hid (by have := HA2.out; have := HAL.out; omega)
                go_wp2
                go_roundg (n + 1 - a2)
                case measure => have := HA2.out; have := HA1.out; omega
                case rel => exact ⟨a2, nj, cj, Aj, oj, HA2n.out, rfl, rfl, rfl, hcj, hbn, HOJ, Lib.hid (by have := HDD.out 1; rw [HA2.out, HA1.out, this]; exact HUN3.out), HS.out⟩
      · have k1 : ¬ (127 : Int) < (x : Int) := by omega
        obtain ⟨q, HQ⟩ : ∃ q : Nat, Hid (q = x + 1) := ⟨_, Lib.hid rfl⟩
        have kq : (x : Int) + 1 = (q : Int) := by rw [HQ.out]; omega
        have kb : q ≤ 128 := by have := HQ.out; omega
        obtain ⟨a2, HA2⟩ : ∃ a2 : Nat, Hid (a2 = a1 + q) := ⟨_, Lib.hid rfl⟩
        have ka2 : (a1 : Int) + (q : Int) = (a2 : Int) := by rw [HA2.out]; omega
        by_cases hsh : t.length < x + 1
        · obtain ⟨rfl, rfl⟩ : o = [] ∧ e0 = 1 := by
            have h1 := HUN2.out
            cases h1 with
            | short => exact ⟨rfl, rfl⟩
            | repBig h2 _ => omega
            | rep h2 _ _ => omega
            | litBig _ h2 _ => omega
            | lit _ h2 _ _ => omega
          have k9 : (n : Int) < (a2 : Int) := by have := HA2.out; have := HA1.out; have := HLEN.out; have := HQ.out; omega
          have k8 : a2 ≤ 140737488365000 := by have := HA2.out; omega
          by_cases ht0 : (n : Int) ≤ (a1 : Int)
          · go_wp2
            refine bodyPost_ret (v := .tuple #[.slice none 0 0, .int .i64 1]) (by simp [results, Try.results19]) rfl ?_
            exact bytes_nil HS.out
          · go_wp2
            refine bodyPost_ret (v := .tuple #[.slice none 0 0, .int .i64 1]) (by simp [results, Try.results19]) rfl ?_
            exact bytes_nil HS.out
        · have k2 : ¬ (n : Int) ≤ (a1 : Int) := by have := HLEN.out; have := HA1.out; omega
          have k9 : ¬ (n : Int) < (a2 : Int) := by have := HA2.out; have := HA1.out; have := HLEN.out; have := HQ.out; omega
          have k8 : a2 ≤ n := by omega
          go_wp2
          go_loopg [4, 44] q (fun q' v4 i wr => ∃ (j nj cj : Nat) (Aj : Option Addr) (oj : List Nat), j ≤ q ∧ q' = q - j ∧ i = .int .i64 j ∧ v4 = .slice Aj nj cj ∧ nj ≤ cj ∧ Hid (nj = no + j) ∧ Hid (oj.length = nj) ∧ Hid (oj = out ++ t.take j) ∧ Sep w wr [.row 5 1 (.slice Aj nj cj) nj (oj.flatMap bcell)])
          case atStart => exact ⟨0, no, c4, A4, out, Nat.zero_le _, rfl, rfl, rfl, hc4, Lib.hid rfl, HOL, Lib.hid (by simp), HS.out⟩
          case round =>
            clear HS e1
            obtain ⟨j, nj, cj, Aj, oj, hj, rfl, rfl, rfl, hcj, HNJ, HOJ, HOE, hs⟩ := hrel
            have HS := Lib.hid hs
            clear hs
            by_cases hjq : j < q
            · obtain ⟨p, HP⟩ : ∃ p : Nat, Hid (p = a1 + j) := ⟨_, Lib.hid rfl⟩
              have kp : (a1 : Int) + (j : Int) = (p : Int) := by rw [HP.out]; omega
              have i2 : (0 : Int) ≤ (p : Int) := by omega
              have i3 : (p : Int) < (n : Int) := by have := HP.out; have := HA2.out; omega
              obtain ⟨y, hy⟩ : ∃ y, t[j]? = some y := ⟨_, List.getElem?_eq_getElem (by have := HQ.out; omega)⟩
              have hy2 : l[p]? = some y := by
                have := HLA.out (j + 1)
                rw [List.getElem?_cons_succ, hy] at this
                rw [HP.out, HA1.out, ← this]
                congr 1
                omega
              have e2 := byte_at (k := p) hb HS.out.below HC.out hy2
              have j1 : (j : Int) < (q : Int) := by omega
              have hb9 : nj ≤ 8192 := by have := HNJ.out; omega
              have HOE2 : Hid (oj ++ [y] = out ++ t.take (j + 1)) := Lib.hid (by rw [HOE.out, List.append_assoc, List.take_add_one, hy]; rfl)
              have hnew := Lib.hid (Rd.of_own (own_new wr 5 #[.int .u8 (y : Int)] 1 1 rfl (by simp [maxLen]) (Nat.le_refl _)))
              have kbp : p ≤ n := by omega
              clear hy hy2
              go_wp2_with ((at_builtin; refine wpList_append_sep (HS.out.alloc _) 0 rfl (.tmp 47) (.tmp 56) 33 rfl 5 ti (.int .u8 0) 1 1 Try.underlying33 hti t0 t1 t2 rfl (by omega) _ nj _ rfl rfl _ _ 1 _ _ rfl hnew.out (by first | exact bcell_one _ | (simp [Value.oneCell'])) (by simp only [maxLen]; omega) (by omega) ?_; intro A6 c6 w6 hc6 hs6 H6'; have H6 := Lib.hid H6'; clear H6'))
              have HB : Hid (Sep w w6 [.row 5 1 (.slice A6 (nj + 1) c6) (nj + 1) ((oj ++ [y]).flatMap bcell)]) := Lib.hid (by rw [List.flatMap_append]; exact H6.out)
              clear H6 HS hnew e2
              go_roundg (q - (j + 1))
              case measure => omega
              case rel => exact ⟨j + 1, nj + 1, c6, A6, oj ++ [y], by omega, rfl, by go_num, rfl, hc6, Lib.hid (by rw [HNJ.out]; omega), Lib.hid (by rw [List.length_append, HOJ.out]; rfl), HOE2, HB.out⟩
            · obtain rfl : j = q := by omega
              have kq1 : (j : Int) - 1 = (x : Int) := by rw [HQ.out]; omega
              have ka3 : (a1 : Int) + 1 + (x : Int) = (a2 : Int) := by have := HA2.out; have := HQ.out; omega
              by_cases hbig : 4096 < nj
              · obtain ⟨rfl, rfl⟩ : o = [] ∧ e0 = 2 := by
                  have := HQ.out
                  have h2 := HOL.out
                  have h3' := HNJ.out
                  have h1 := HUN2.out
                  cases h1 with
                  | short _ h3 => have := h3 (by omega); omega
                  | repBig h3 _ => omega
                  | rep h3 _ _ => omega
                  | litBig => exact ⟨rfl, rfl⟩
                  | lit _ _ h3 _ => omega
                have k3 : (4096 : Int) < (nj : Int) := by omega
                go_wp2
                refine bodyPost_ret (v := .tuple #[.slice none 0 0, .int .i64 2]) (by simp [results, Try.results19]) rfl ?_
                exact bytes_nil HS.out
              · have HUN3 : Hid (Un oj (t.drop j) o e0) := Lib.hid (by
                  rw [HOE.out, HQ.out]
                  have h4 := HQ.out
                  have h2 := HOL.out
                  have h3' := HNJ.out
                  have h1 := HUN2.out
                  cases h1 with
                  | short _ h3 => have := h3 (by omega); omega
                  | repBig h3 _ => omega
                  | rep h3 _ _ => omega
                  | litBig _ _ h3 => omega
                  | lit _ _ _ h3 => exact h3)
                have k3 : ¬ (4096 : Int) < (nj : Int) := by omega
                have hbn : nj ≤ 4096 := by omega
                obtain ⟨a3, HA3⟩ : ∃ a3 : Nat, Hid (a3 = a1 + 1) := ⟨_, Lib.hid rfl⟩
                have kaa : (a1 : Int) + 1 = (a3 : Int) := by rw [HA3.out]; omega
                have kab : (a3 : Int) + (x : Int) = (a2 : Int) := by have := HA3.out; have := HA2.out; have := HQ.out; omega
                clear ka3
                go_wp2
                go_roundg (n + 1 - a2)
                case measure => have := HA2.out; have := HA1.out; have := HQ.out; omega
                case rel => exact ⟨a2, nj, cj, Aj, oj, k8, rfl, rfl, rfl, hcj, hbn, HOJ, Lib.hid (by have := HDD.out j; rw [HA2.out, HA1.out, this]; exact HUN3.out), HS.out⟩
    · have hae : a = n := by omega
      obtain ⟨h1, h2⟩ : o = out ∧ e0 = 0 := by
        have h1 := HUN.out
        rw [List.drop_of_length_le (by rw [HL.out]; omega)] at h1
        cases h1
        exact ⟨rfl, rfl⟩
      have HE := Lib.hid (And.intro h1 h2)
      have i1 : ¬ (a : Int) < (n : Int) := by omega
      clear h1 h2 hae HUN
      go_wp2
      refine bodyPost_ret (v := .tuple #[.slice A4 no c4, .int .i64 0]) (by simp [results, Try.results19]) rfl ?_
      obtain ⟨rfl, rfl⟩ := HE.out
      unfold BytesRet
      rw [HOL.out]
      exact ⟨A4, c4, hc4, rfl, HS.out⟩
end Pr
end Go.Proofs.Ytakmfjnfkjdbfaa
