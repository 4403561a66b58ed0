/-
  Walks of the reference's UHas and UCheck. Conditions: none beyond each theorem's own premises.
-/
import Derived.Test.YtlgknolcknlinaaFkW
import Derived.Test.YtlgknolcknlinaaSort
import Derived.BigRegion
namespace Go.Proofs.Ytlgknolcknlinaa
open Go.RowKit
open Fs (Cm CL flat cnt rightF okB ifact right_any count_any)
set_option linter.unusedVariables false
namespace Fk

set_option maxHeartbeats 800000 in
theorem uhas_any (A : Option Addr) (n c : Nat) (l : List Int) (v : Int) (w : World) (h : FRd w A n l) (hn : n ≤ 9223372036854775807) :
    Calls Try.prog 13 #[.slice A n c, .int .i64 v] w (Ret w (.bool (decide (v ∈ l)))) := by
  have HR := Lib.hid h
  clear h
  go_enter Try.func13, Try.ntmps13
  go_wp2
  go_loopg [9] n (fun g i wr => ∃ k : Nat, k ≤ n ∧ g = n - k ∧ i = .int .i64 k ∧ Hid (v ∉ l.take k) ∧ Below w.heap.size w wr)
  case atStart => exact ⟨0, Nat.zero_le _, rfl, rfl, Lib.hid (by simp), Below.refl _ _⟩
  case round =>
    obtain ⟨k, hk, rfl, rfl, HN, hB⟩ := hrel
    by_cases hlt : k < n
    · obtain ⟨b, off, rfl, hb, hc⟩ := HR.out.1.at_ icell_len (by omega)
      obtain ⟨y, hy⟩ : ∃ y, l[k]? = some y := ⟨_, List.getElem?_eq_getElem (by rw [HR.out.2]; exact hlt)⟩
      have c0 := ifact hb hB hc hy
      have HY := Lib.hid hy
      clear hc hy
      cases hyv : (y == v) with
      | true =>
        have HM : Hid (decide (v ∈ l) = true) := Lib.hid (decide_eq_true (by
          have : y = v := by simpa using hyv
          rw [← this]
          exact List.mem_of_getElem? HY.out))
        go_wp2
        go_ret
        exact Ret.mk (bool_eq HM.out.symm) (by repeat (first | with_reducible refine Below.setCell ?_ (by first | (simp; done) | (simp; omega)) _ | with_reducible assumption | with_reducible exact Below.refl _ _ | with_reducible refine Below.alloc ?_ (by first | omega | (simp; done) | (simp; omega)) _ | with_reducible refine Below.drew ?_))
      | false =>
        have HN2 : Hid (v ∉ l.take (k + 1)) := Lib.hid (by
          rw [take_step HY.out, List.mem_append, List.mem_singleton]
          rintro (h | h)
          · exact HN.out h
          · subst h; simp at hyv)
        go_wp2
        go_roundg (n - (k + 1))
        case measure => omega
        case rel => exact ⟨k + 1, by omega, rfl, by go_num, HN2, hB⟩
    · have HM : Hid (decide (v ∈ l) = false) := Lib.hid (decide_eq_false (by
        have := HN.out
        rw [List.take_of_length_le (by rw [HR.out.2]; omega)] at this
        exact this))
      go_wp2
      go_ret
      exact Ret.mk (bool_eq HM.out.symm) (by repeat (first | with_reducible refine Below.setCell ?_ (by first | (simp; done) | (simp; omega)) _ | with_reducible assumption | with_reducible exact Below.refl _ _ | with_reducible refine Below.alloc ?_ (by first | omega | (simp; done) | (simp; omega)) _ | with_reducible refine Below.drew ?_))

theorem nones_ge {z : Int} : ∀ (F N : List Int), N.length ≤ (nones z N F).length
  | [], N => Nat.le_refl _
  | b :: t, N => by
    rw [nones]
    split
    · have := nones_ge t (N ++ [b]) (z := z)
      simp at this
      omega
    · exact nones_ge t N
def ltI (a b : Int) : Bool := decide (a < b)
theorem icell_set {l : List Int} {k : Nat} (hk : k < l.length) (v : Int) : (l.flatMap icell).set k (.int .i64 v) = (l.set k v).flatMap icell := by
  have h := flat_setMany icell_len l k v hk
  rw [Nat.mul_one] at h
  exact h
theorem icell_at {l : List Int} {k : Nat} {y : Int} (h : l[k]? = some y) : (l.flatMap icell)[k]? = some (.int .i64 y) := by
  have := flat_get icell_len l k 0 y h (by omega)
  rw [Nat.mul_one] at this
  exact this
theorem isort_lt {l : List Int} (h : l.Nodup) : (Srt.isort ltI l.length l).Pairwise (· < ·) ∧ ∀ x, x ∈ Srt.isort ltI l.length l ↔ x ∈ l := by
  have hp := Srt.isort_perm (lt := ltI) l
  have ha := Srt.isort_asc (lt := ltI) (fun a b c h1 h2 => by simp [ltI] at *; omega) (fun a b h => by simp [ltI] at *; omega) l
  exact ⟨ha.imp₂ (fun a b h1 h2 => by simp [ltI] at h1; omega) (hp.nodup_iff.2 h), fun x => hp.mem_iff⟩

set_option maxRecDepth 100000 in
set_option maxHeartbeats 6400000 in
theorem ucheck_any (Z : Nat) (A A' : Option Addr) (n c n' c' : Nat) (ms FA : List Int) (l : List Cm) (w : World) (hr' : FRd w A' n' ms) (hn' : n' ≤ 1048576) (hr : CL w A n l) (hn : n ≤ 400) (hZ : Z ≤ 4096) (hFA : flat (l.map Cm.p) = FA) (hFL : FA.length ≤ 1099511627776 - 1) :
    Calls Try.prog 8 #[.int .i64 (Z : Int), .slice A n c, .slice A' n' c'] w (fun e w' => ∃ (v : Value) (a : Fa), e = .returned v ∧ Hid (FOk Z FA ms a) ∧ Below w.heap.size w w' ∧ FV w' a v) := by
  have HS0 : Hid (Sep w (w.alloc (.cells #[.slice none 0 0, .slice none 0 0, .slice none 0 0, .slice none 0 0] 25)) [.cells w.heap.size 25 [.slice none 0 0, .slice none 0 0, .slice none 0 0, .slice none 0 0]]) := Lib.hid ((Sep.nil_ w).new 25 [.slice none 0 0, .slice none 0 0, .slice none 0 0, .slice none 0 0])
  obtain ⟨i0, hi, hz0, hz1, hz2⟩ := info_parts int_info
  have HR := Lib.hid hr
  have HR' := Lib.hid hr'
  have HFA := Lib.hid hFA
  clear hr' hr hFA
  obtain ⟨NF, hNF⟩ : ∃ NF, NF = nones (Z : Int) [] FA := ⟨_, rfl⟩
  have hNFl : NF.length ≤ 1099511627776 - 1 := by rw [hNF]; have := nones_len FA [] (z := (Z : Int)); simp at this; omega
  have HNF := Lib.hid hNF
  clear hNF
  go_enter Try.func8, Try.ntmps8
  go_upto_region 2 with (fail)
  have hsz1 : (w.alloc (.cells #[.slice none 0 0, .slice none 0 0, .slice none 0 0, .slice none 0 0] 25)).heap.size = w.heap.size + 1 := by simp
  have HS1 := ql_new HS0.out
  rw [hsz1] at HS1
  have HS1 := Lib.hid HS1
  clear HS0 hsz1
  generalize (w.alloc (.cells #[.slice none 0 0, .slice none 0 0, .slice none 0 0, .slice none 0 0] 25)).alloc (.cells #[.slice none 0 0, .slice none 0 0, .slice none 0 0, .slice none 0 0] 25) = wo at HS1 ⊢
  generalize w.heap.size + 1 = g7 at HS1 ⊢
  generalize w.heap.size = g6 at HS1 ⊢
  go_wp2
  go_loopg [19] n (fun g i wr => ∃ (k : Nat) (A3 : Option Addr) (m3 c3 : Nat) (N : List Int), k ≤ n ∧ g = n - k ∧ i = .int .i64 k ∧ Hid (nones (Z : Int) N (flat ((l.drop k).map Cm.p)) = NF) ∧ Sep w wr (QL g7 none 0 0 none 0 0 none 0 0 A3 m3 c3 [] [] [] N ++ [.cells g6 25 [.slice none 0 0, .slice none 0 0, .slice none 0 0, .slice none 0 0]]))
  case atStart => exact ⟨0, none, 0, 0, [], Nat.zero_le _, rfl, rfl, Lib.hid (by rw [List.drop_zero, HFA.out, HNF.out]), HS1.out⟩
  case round =>
    clear HS1 wo
    obtain ⟨k, A3, m3, c3, N, hk, rfl, rfl, HF, hs⟩ := hrel
    have HS := Lib.hid hs
    clear hs
    by_cases hlt : k < n
    · obtain ⟨b, off, rfl, hb, hc⟩ := HR.out.rd.at_ Cm.len (by omega)
      obtain ⟨x, hx⟩ : ∃ x, l[k]? = some x := ⟨_, List.getElem?_eq_getElem (by rw [HR.out.len]; exact hlt)⟩
      obtain ⟨c0, c1⟩ := Cm.facts hb HS.out.below hc hx
      have HQ := Lib.hid (HR.out.ok x (List.mem_of_getElem? hx))
      have HF2 : Hid (nones (Z : Int) N (x.bs ++ flat ((l.drop (k + 1)).map Cm.p)) = NF) := Lib.hid (by rw [← flat_step hx]; exact HF.out)
      clear hc hx HF
      obtain ⟨f, Ax, nx, cx, bs⟩ := x
      simp only at c0 c1 HF2
      go_upto_region 5 with (fail)
      have HS1 := Lib.hid (HS.out.alloc (.cells #[.int .i64 f, .slice Ax nx cx] 36))
      have d1 := (Blk.new wr 36 [.int .i64 f, .slice Ax nx cx]).cell (k := 1) rfl
      change (wr.alloc (.cells #[.int .i64 f, .slice Ax nx cx] 36)).cell? _ = _ at d1
      generalize wr.alloc (.cells #[.int .i64 f, .slice Ax nx cx] 36) = wo at HS1 d1 ⊢
      generalize wr.heap.size = gb at d1 ⊢
      clear c0 c1 HS
      obtain ⟨q1, q2, q3⟩ := HQ.out
      simp only at q1 q2 q3
      have HQ1 := Lib.hid q1
      have HQ2 := Lib.hid q2
      simp only [maxLen] at q3
      clear q1 q2 HQ
      go_wp2
      clear d1
      go_loopg [26] nx (fun g i wr => ∃ (j : Nat) (A3 : Option Addr) (m3 c3 : Nat) (N : List Int), j ≤ nx ∧ g = nx - j ∧ i = .int .i64 j ∧ Hid (nones (Z : Int) N (bs.drop j ++ flat ((l.drop (k + 1)).map Cm.p)) = NF) ∧ Sep w wr (QL g7 none 0 0 none 0 0 none 0 0 A3 m3 c3 [] [] [] N ++ [.cells g6 25 [.slice none 0 0, .slice none 0 0, .slice none 0 0, .slice none 0 0]]))
      case atStart => exact ⟨0, A3, m3, c3, N, Nat.zero_le _, rfl, rfl, HF2, HS1.out⟩
      case round =>
        clear HS1 wo HF2 N A3 m3 c3
        obtain ⟨j, A3, m3, c3, N, hj, rfl, rfl, HF, hs⟩ := hrel
        have HS := Lib.hid hs
        clear hs
        by_cases hlt2 : j < nx
        · obtain ⟨b2, off2, rfl, hb2, hc2⟩ := HQ1.out.at_ icell_len (by omega)
          obtain ⟨y, hy⟩ : ∃ y, bs[j]? = some y := ⟨_, List.getElem?_eq_getElem (by rw [HQ2.out]; exact hlt2)⟩
          have e0 := ifact hb2 HS.out.below hc2 hy
          have HF2 : Hid (nones (Z : Int) N (y :: (bs.drop (j + 1) ++ flat ((l.drop (k + 1)).map Cm.p))) = NF) := Lib.hid (by have := HF.out; rw [drop_step hy] at this; exact this)
          have hm3 : m3 ≤ NF.length := by
            rw [← (frd_row HS.out 4 rfl).2, ← HF2.out]
            exact nones_ge _ _
          clear hc2 hy HF
          have cU := Lib.hid (uhas_any A3 m3 c3 N y wr (frd_row HS.out 4 rfl) (by omega))
          have f3 := HS.out.cell 0 rfl (k := 3) rfl
          by_cases h0 : y < 0
          · have HO : Hid (outB (Z : Int) y = true) := Lib.hid (by simp [outB]; omega)
            cases hin : decide (y ∈ N) with
            | true =>
              have HF3 : Hid (nones (Z : Int) N (bs.drop (j + 1) ++ flat ((l.drop (k + 1)).map Cm.p)) = NF) := Lib.hid (by
                have := HF2.out
                rw [nones, if_neg (fun h => h.2 (by simpa using hin))] at this
                exact this)
              rw [hin] at cU
              clear hin
              go_wp2_with fail
              refine cU.out.mono ?_; rintro en w1 ⟨rfl, hb1⟩
              have HS2 := Lib.hid (HS.out.later hb1)
              clear cU HS f3 hb1 e0
              go_wp2
              go_roundg (nx - (j + 1))
              case measure => omega
              case rel => exact ⟨j + 1, A3, m3, c3, N, by omega, rfl, by go_num, HF3, HS2.out⟩
            | false =>
              have HF3 : Hid (nones (Z : Int) (N ++ [y]) (bs.drop (j + 1) ++ flat ((l.drop (k + 1)).map Cm.p)) = NF) := Lib.hid (by
                have := HF2.out
                rw [nones, if_pos ⟨HO.out, by simpa using hin⟩] at this
                exact this)
              rw [hin] at cU
              clear hin
              go_wp2_with fail
              refine cU.out.mono ?_; rintro en w1 ⟨rfl, hb1⟩
              have HS2 := Lib.hid (HS.out.later hb1)
              clear cU HS f3 hb1 e0
              have hnew := Lib.hid (Rd.of_own (own_new w1 3 #[.int .i64 y] 1 1 rfl (by simp [maxLen]) (Nat.le_refl _)))
              have f1 := HS2.out.cell 0 rfl (k := 3) rfl
              go_wp2_with (at_builtin; refine wpList_append_sep (HS2.out.alloc _) (3 + 1) rfl (.tmp 45) (.tmp 47) 23 rfl 3 i0 (.int .i64 0) 1 8 Try.underlying23 hi hz0 hz1 hz2 rfl (by omega) _ m3 _ rfl rfl _ _ 1 1 _ rfl hnew.out (by simp [Value.oneCell']) (by simp only [maxLen]; omega) (by omega) ?_; intro A9 c9 w9 hc9 hs9 H3'; have H3 := Lib.hid H3'; have v0 := H3'.froz 0 rfl (k := 3); have v1 := H3'.cell 0 rfl (k := 3) rfl; clear H3' f1)
              have HQ9 := Lib.hid (ql_app3 H3.out)
              clear H3 v0 v1 hnew hc9 hs9 HS2
              go_roundg (nx - (j + 1))
              case measure => omega
              case rel => exact ⟨j + 1, A9, m3 + 1, c9, N ++ [y], by omega, rfl, by go_num, HF3, HQ9.out⟩
          · by_cases h1 : y ≥ (Z : Int)
            · have HO : Hid (outB (Z : Int) y = true) := Lib.hid (by simp [outB]; omega)
              cases hin : decide (y ∈ N) with
              | true =>
                have HF3 : Hid (nones (Z : Int) N (bs.drop (j + 1) ++ flat ((l.drop (k + 1)).map Cm.p)) = NF) := Lib.hid (by
                  have := HF2.out
                  rw [nones, if_neg (fun h => h.2 (by simpa using hin))] at this
                  exact this)
                rw [hin] at cU
                clear hin
                go_wp2_with fail
                refine cU.out.mono ?_; rintro en w1 ⟨rfl, hb1⟩
                have HS2 := Lib.hid (HS.out.later hb1)
                clear cU HS f3 hb1 e0
                go_wp2
                go_roundg (nx - (j + 1))
                case measure => omega
                case rel => exact ⟨j + 1, A3, m3, c3, N, by omega, rfl, by go_num, HF3, HS2.out⟩
              | false =>
                have HF3 : Hid (nones (Z : Int) (N ++ [y]) (bs.drop (j + 1) ++ flat ((l.drop (k + 1)).map Cm.p)) = NF) := Lib.hid (by
                  have := HF2.out
                  rw [nones, if_pos ⟨HO.out, by simpa using hin⟩] at this
                  exact this)
                rw [hin] at cU
                clear hin
                go_wp2_with fail
                refine cU.out.mono ?_; rintro en w1 ⟨rfl, hb1⟩
                have HS2 := Lib.hid (HS.out.later hb1)
                clear cU HS f3 hb1 e0
                have hnew := Lib.hid (Rd.of_own (own_new w1 3 #[.int .i64 y] 1 1 rfl (by simp [maxLen]) (Nat.le_refl _)))
                have f1 := HS2.out.cell 0 rfl (k := 3) rfl
                go_wp2_with (at_builtin; refine wpList_append_sep (HS2.out.alloc _) (3 + 1) rfl (.tmp 45) (.tmp 47) 23 rfl 3 i0 (.int .i64 0) 1 8 Try.underlying23 hi hz0 hz1 hz2 rfl (by omega) _ m3 _ rfl rfl _ _ 1 1 _ rfl hnew.out (by simp [Value.oneCell']) (by simp only [maxLen]; omega) (by omega) ?_; intro A9 c9 w9 hc9 hs9 H3'; have H3 := Lib.hid H3'; have v0 := H3'.froz 0 rfl (k := 3); have v1 := H3'.cell 0 rfl (k := 3) rfl; clear H3' f1)
                have HQ9 := Lib.hid (ql_app3 H3.out)
                clear H3 v0 v1 hnew hc9 hs9 HS2
                go_roundg (nx - (j + 1))
                case measure => omega
                case rel => exact ⟨j + 1, A9, m3 + 1, c9, N ++ [y], by omega, rfl, by go_num, HF3, HQ9.out⟩
            · have HF3 : Hid (nones (Z : Int) N (bs.drop (j + 1) ++ flat ((l.drop (k + 1)).map Cm.p)) = NF) := Lib.hid (by
                have := HF2.out
                rw [nones, if_neg (fun h => by have := h.1; simp [outB] at this; omega)] at this
                exact this)
              clear cU f3
              go_wp2
              go_roundg (nx - (j + 1))
              case measure => omega
              case rel => exact ⟨j + 1, A3, m3, c3, N, by omega, rfl, by go_num, HF3, HS.out⟩
        · have HF2 : Hid (nones (Z : Int) N (flat ((l.drop (k + 1)).map Cm.p)) = NF) := Lib.hid (by have := HF.out; rw [List.drop_of_length_le (by rw [HQ2.out]; omega), List.nil_append] at this; exact this)
          go_wp2
          go_roundg (n - (k + 1))
          case measure => omega
          case rel => exact ⟨k + 1, A3, m3, c3, N, by omega, rfl, by go_num, HF2, HS.out⟩
    · obtain rfl : N = NF := by
        have := HF.out
        rw [List.drop_of_length_le (by rw [HR.out.len]; omega)] at this
        simpa [flat, nones] using this
      clear HF
      have HNL := Lib.hid (frd_row HS.out 4 rfl).2
      have hm3 : m3 ≤ 1099511627776 - 1 := by rw [← HNL.out]; exact hNFl
      generalize m3 = M at HS HNL hm3
      have f3 := HS.out.cell 0 rfl (k := 3) rfl
      obtain ⟨wo, rfl⟩ : ∃ wo : World, wo = wr := ⟨_, rfl⟩
      go_upto_region 13 with (fail)
      clear f3
      go_loopg [55] M (fun g i wr => ∃ (a : Nat), a ≤ M ∧ g = M - a ∧ i = .int .i64 a ∧ Sep w wr (QL g7 none 0 0 none 0 0 none 0 0 A3 M c3 [] [] [] (Srt.isort ltI a N) ++ [.cells g6 25 [.slice none 0 0, .slice none 0 0, .slice none 0 0, .slice none 0 0]]))
      case atStart => exact ⟨0, Nat.zero_le _, rfl, rfl, HS.out⟩
      case round =>
        clear HS
        obtain ⟨a, ha, rfl, rfl, hs⟩ := hrel
        have HS := Lib.hid hs
        clear hs
        by_cases hlt : a < M
        · obtain ⟨wo, rfl⟩ : ∃ wo : World, wo = wr := ⟨_, rfl⟩
          go_wp2
          go_loopg [13] a (fun g i wr => ∃ (cur : List Int), g ≤ a ∧ i = .int .i64 (g : Int) ∧ cur.length = M ∧ Hid (Srt.sink ltI g cur = Srt.isort ltI (a + 1) N) ∧ Sep w wr (QL g7 none 0 0 none 0 0 none 0 0 A3 M c3 [] [] [] cur ++ [.cells g6 25 [.slice none 0 0, .slice none 0 0, .slice none 0 0, .slice none 0 0]]))
          case atStart => exact ⟨Srt.isort ltI a N, Nat.le_refl _, rfl, by rw [Srt.isort_len, HNL.out], Lib.hid rfl, HS.out⟩
          case round =>
            clear HS
            obtain ⟨cur, hg, rfl, hcl, HK, hs⟩ := hrel
            have HS := Lib.hid hs
            have HCL := Lib.hid hcl
            clear hs hcl
            rcases Nat.eq_zero_or_pos gk with h0 | hpos
            · subst h0
              go_wp2
              go_quiet (fail)
              go_wp2
              generalize hxw : World.drewN wr _ = xw
              have xh : Below wr.heap.size wr xw := by rw [← hxw]; exact below_drewN (Below.refl _ _) _
              clear hxw
              go_roundg (M - (a + 1))
              case measure => omega
              case rel => exact ⟨a + 1, by omega, rfl, by go_num, by rw [← HK.out]; exact HS.out.later xh⟩
            · obtain ⟨m, rfl⟩ : ∃ m, gk = m + 1 := ⟨gk - 1, by omega⟩
              clear hpos
              have hcl := HCL.out
              obtain ⟨x, hx⟩ : ∃ x, cur[m + 1]? = some x := ⟨_, List.getElem?_eq_getElem (by omega)⟩
              obtain ⟨y, hy⟩ : ∃ y, cur[m]? = some y := ⟨_, List.getElem?_eq_getElem (by omega)⟩
              have p0 := icell_at hx
              have q0 := icell_at hy
              obtain ⟨g5, rfl, hg5, hat⟩ := HS.out.rowAt 4 rfl (by omega)
              have d0 := (hat _).1 _ p0
              have e0 := (hat _).1 _ q0
              have f3 := HS.out.cell 0 rfl (k := 3) rfl
              have i0 : (0 : Int) ≤ (m : Int) := by omega
              have i1 : (m : Int) < (M : Int) := by omega
              have i2 : (0 : Int) < ((m + 1 : Nat) : Int) := by omega
              have i3 : ((m + 1 : Nat) : Int) - 1 = (m : Int) := by omega
              have i4 : ((m + 1 : Nat) : Int) < (M : Int) := by omega
              clear hat
              by_cases hk : x < y
              · have HKN := Lib.hid ((Srt.sink_go ltI hx hy (decide_eq_true hk)).symm.trans HK.out)
                go_wp2
                go_quiet (fail)
                go_wp2
                clear d0 e0 f3
                generalize hxw : World.drewN wr _ = xw
                have xh : Below wr.heap.size wr xw := by rw [← hxw]; exact below_drewN (Below.refl _ _) _
                clear hxw
                have HSx := Lib.hid (HS.out.later xh)
                obtain ⟨g', hg', _, hat⟩ := HSx.out.rowAt 4 rfl (by omega)
                cases hg'
                have d0 := (hat _).1 _ p0
                have e0 := (hat _).1 _ q0
                have f3 := HSx.out.cell 0 rfl (k := 3) rfl
                have u0 := (hat (m + 1)).2.1
                have u1 := (hat m).2.1
                obtain ⟨g', hg', hb', _⟩ := Row.at_ (HSx.out.rowHas 4 rfl) (by omega)
                cases hg'
                have hne : g7 ≠ g5 := HSx.out.ne 0 4 (by omega) rfl rfl rfl hb'
                have hne2 : g5 ≠ g7 := fun e => hne e.symm
                clear hb'
                have K0 := (hat (m + 1)).2.2 (.int .i64 y)
                rw [icell_set (by omega)] at K0
                obtain ⟨g', hg', _, hat2⟩ := K0.rowAt 4 rfl (by omega)
                cases hg'
                have K1 := (hat2 m).2.2 (.int .i64 x)
                rw [icell_set (by simp; omega)] at K1
                have K : Hid (Sep w ((xw.setCell ⟨g5, m + 1, none⟩ (.int .i64 y)).setCell ⟨g5, m, none⟩ (.int .i64 x)) (QL g7 none 0 0 none 0 0 none 0 0 (some ⟨g5, 0, none⟩) M c3 [] [] [] ((cur.set (m + 1) y).set m x) ++ [.cells g6 25 [.slice none 0 0, .slice none 0 0, .slice none 0 0, .slice none 0 0]])) := Lib.hid K1
                clear hat hat2 K0 K1 HS HSx p0 q0 hx hy hcl xh
                go_region
                all_goals
                  go_wp2
                  go_roundg m
                  case measure => omega
                  case rel => exact ⟨(cur.set (m + 1) y).set m x, by omega, rfl, by simp [HCL.out], HKN, K.out.drew⟩
              · have HKN := Lib.hid ((Srt.sink_stop ltI hx hy (decide_eq_false hk)).symm.trans HK.out)
                clear p0 q0 hx hy hcl
                go_wp2
                go_quiet (fail)
                go_wp2
                generalize hxw : World.drewN wr _ = xw
                have xh : Below wr.heap.size wr xw := by rw [← hxw]; exact below_drewN (Below.refl _ _) _
                clear hxw
                go_roundg (M - (a + 1))
                case measure => omega
                case rel => exact ⟨a + 1, by omega, rfl, by go_num, by rw [← HKN.out]; exact HS.out.later xh⟩
        · have haM : a = M := by omega
          rw [haM] at HS
          clear haM
          have HNS : Hid ((Srt.isort ltI M N).Pairwise (· < ·) ∧ ∀ x : Int, x ∈ Srt.isort ltI M N ↔ (x ∈ FA ∧ outB (Z : Int) x = true)) := Lib.hid (by
            have hnd : N.Nodup := by rw [HNF.out]; exact nones_nodup FA [] List.nodup_nil
            have h := isort_lt hnd
            rw [HNL.out] at h
            exact ⟨h.1, fun x => (h.2 x).trans (by rw [HNF.out, nones_mem]; simp)⟩)
          generalize Srt.isort ltI M N = NS at HS HNS
          clear HNF HNL
          obtain ⟨wo, rfl⟩ : ∃ wo : World, wo = wr := ⟨_, rfl⟩
          go_wp2
          go_loopg [99] Z (fun g i wr => ∃ (t : Nat) (A0 : Option Addr) (m0 c0 : Nat) (A1 : Option Addr) (m1 c1 : Nat) (A2 : Option Addr) (m2 c2 : Nat), t ≤ Z ∧ g = Z - t ∧ i = .int .i64 t ∧ Sep w wr (QL g7 A0 m0 c0 A1 m1 c1 A2 m2 c2 A3 M c3 (mk (pT FA) t) (mk (pL FA ms) t) (mk (pU FA ms) t) NS ++ [.cells g6 25 [.slice none 0 0, .slice none 0 0, .slice none 0 0, .slice none 0 0]]))
          case atStart => exact ⟨0, none, 0, 0, none, 0, 0, none, 0, 0, Nat.zero_le _, rfl, rfl, HS.out⟩
          case round =>
            clear HS
            obtain ⟨t, A0, m0, c0, A1, m1, c1, A2, m2, c2, ht, rfl, rfl, hs⟩ := hrel
            have HS := Lib.hid hs
            clear hs
            have hm0 : m0 ≤ t := by rw [← (frd_row HS.out 1 rfl).2]; exact mk_len _ _
            have hm1 : m1 ≤ t := by rw [← (frd_row HS.out 2 rfl).2]; exact mk_len _ _
            have hm2 : m2 ≤ t := by rw [← (frd_row HS.out 3 rfl).2]; exact mk_len _ _
            by_cases hlt5 : t < Z
            · obtain ⟨q, hq⟩ : ∃ q : Nat, q = cnt (l.map Cm.p) (t : Int) := ⟨_, rfl⟩
              have hqe : q = FA.count (t : Int) := by rw [hq, cnt, HFA.out]
              have hqb : q ≤ FA.length := by rw [hqe]; exact List.count_le_length
              have cC := Lib.hid (count_any A n c l (t : Int) wr (HR.out.later HS.out.below) (by omega) (by rw [← hq]; omega))
              rw [← hq] at cC
              clear hq
              have HQE := Lib.hid hqe
              clear hqe
              have cU := Lib.hid (fun W (hW : Below w.heap.size w W) => uhas_any A' n' c' ms (t : Int) W (HR'.out.later hW) (by omega))
              go_wp2_with fail
              refine cC.out.mono ?_; rintro en w1 ⟨rfl, hb1⟩
              have HS2 := Lib.hid (HS.out.later hb1)
              clear cC HS hb1
              go_wp2_with fail
              refine (cU.out w1 HS2.out.below).mono ?_; rintro en w2 ⟨rfl, hb2⟩
              have HS3 := Lib.hid (HS2.out.later hb2)
              clear cU HS2 hb2
              cases hin : decide ((t : Int) ∈ ms) with
              | true =>
                have hin' : (t : Int) ∈ ms := by simpa using hin
                have HU : Hid (mk (pU FA ms) (t + 1) = mk (pU FA ms) t) := Lib.hid (mk_no (by unfold pU; rw [decide_eq_false (p := (t : Int) ∉ ms) (fun h => h hin'), Bool.and_false]))
                by_cases z0 : q = 0
                · have hz : ((q : Int) == 0) = true := by simp [z0]
                  have hg : ¬ (q : Int) > 1 := by omega
                  have hp : ¬ (q : Int) > 0 := by omega
                  have HT : Hid (mk (pT FA) (t + 1) = mk (pT FA) t) := Lib.hid (mk_no (by unfold pT; rw [← HQE.out]; exact decide_eq_false (by omega)))
                  have HL : Hid (mk (pL FA ms) (t + 1) = mk (pL FA ms) t ++ [(t : Int)]) := Lib.hid (mk_yes (by unfold pL; rw [← HQE.out, decide_eq_true z0, hin]; rfl))
                  clear z0 HQE hin hin'
                  have hnew := Lib.hid (Rd.of_own (own_new w2 3 #[.int .i64 (t : Int)] 1 1 rfl (by simp [maxLen]) (Nat.le_refl _)))
                  have f1 := HS3.out.cell 0 rfl (k := 1) rfl
                  go_wp2_with (at_builtin; refine wpList_append_sep (HS3.out.alloc _) (1 + 1) rfl (.tmp 122) (.tmp 124) 23 rfl 3 i0 (.int .i64 0) 1 8 Try.underlying23 hi hz0 hz1 hz2 rfl (by omega) _ m1 _ rfl rfl _ _ 1 1 _ rfl hnew.out (by simp [Value.oneCell']) (by simp only [maxLen]; omega) (by omega) ?_; intro A9 c9 w9 hc9 hs9 H3'; have H3 := Lib.hid H3'; have v0 := H3'.froz 0 rfl (k := 1); have v1 := H3'.cell 0 rfl (k := 1) rfl; clear H3' f1)
                  have HQ9 := Lib.hid (ql_app1 H3.out)
                  clear H3 v0 v1 hnew hc9 hs9 HS3
                  go_roundg (Z - (t + 1))
                  case measure => omega
                  case rel => exact ⟨t + 1, A0, m0, c0, A9, m1 + 1, c9, A2, m2, c2, by omega, rfl, by go_num, by rw [HT.out, HL.out, HU.out]; exact HQ9.out⟩
                · have hz : ((q : Int) == 0) = false := by simp; omega
                  have hp : (q : Int) > 0 := by omega
                  have HL : Hid (mk (pL FA ms) (t + 1) = mk (pL FA ms) t) := Lib.hid (mk_no (by unfold pL; rw [← HQE.out, decide_eq_false z0]; rfl))
                  by_cases hg : (q : Int) > 1
                  · have HT : Hid (mk (pT FA) (t + 1) = mk (pT FA) t ++ [(t : Int)]) := Lib.hid (mk_yes (by unfold pT; rw [← HQE.out]; exact decide_eq_true (by omega)))
                    clear z0 HQE hin hin'
                    have hnew := Lib.hid (Rd.of_own (own_new w2 3 #[.int .i64 (t : Int)] 1 1 rfl (by simp [maxLen]) (Nat.le_refl _)))
                    have f1 := HS3.out.cell 0 rfl (k := 0) rfl
                    go_wp2_with (at_builtin; refine wpList_append_sep (HS3.out.alloc _) (0 + 1) rfl (.tmp 111) (.tmp 113) 23 rfl 3 i0 (.int .i64 0) 1 8 Try.underlying23 hi hz0 hz1 hz2 rfl (by omega) _ m0 _ rfl rfl _ _ 1 1 _ rfl hnew.out (by simp [Value.oneCell']) (by simp only [maxLen]; omega) (by omega) ?_; intro A9 c9 w9 hc9 hs9 H3'; have H3 := Lib.hid H3'; have v0 := H3'.froz 0 rfl (k := 0); have v1 := H3'.cell 0 rfl (k := 0) rfl; clear H3' f1)
                    have HQ9 := Lib.hid (ql_app0 H3.out)
                    clear H3 v0 v1 hnew hc9 hs9 HS3
                    go_roundg (Z - (t + 1))
                    case measure => omega
                    case rel => exact ⟨t + 1, A9, m0 + 1, c9, A1, m1, c1, A2, m2, c2, by omega, rfl, by go_num, by rw [HT.out, HL.out, HU.out]; exact HQ9.out⟩
                  · have HT : Hid (mk (pT FA) (t + 1) = mk (pT FA) t) := Lib.hid (mk_no (by unfold pT; rw [← HQE.out]; exact decide_eq_false (by omega)))
                    clear z0 HQE hin hin'
                    go_wp2
                    go_roundg (Z - (t + 1))
                    case measure => omega
                    case rel => exact ⟨t + 1, A0, m0, c0, A1, m1, c1, A2, m2, c2, by omega, rfl, by go_num, by rw [HT.out, HL.out, HU.out]; exact HS3.out⟩
              | false =>
                have hin' : (t : Int) ∉ ms := by simpa using hin
                have HL : Hid (mk (pL FA ms) (t + 1) = mk (pL FA ms) t) := Lib.hid (mk_no (by unfold pL; rw [hin, Bool.and_false]))
                by_cases z0 : q = 0
                · have hz : ((q : Int) == 0) = true := by simp [z0]
                  have hg : ¬ (q : Int) > 1 := by omega
                  have hp : ¬ (q : Int) > 0 := by omega
                  have HT : Hid (mk (pT FA) (t + 1) = mk (pT FA) t) := Lib.hid (mk_no (by unfold pT; rw [← HQE.out]; exact decide_eq_false (by omega)))
                  have HU : Hid (mk (pU FA ms) (t + 1) = mk (pU FA ms) t) := Lib.hid (mk_no (by unfold pU; rw [← HQE.out, decide_eq_false (p := 0 < q) (by omega)]; rfl))
                  clear z0 HQE hin hin'
                  go_wp2
                  go_roundg (Z - (t + 1))
                  case measure => omega
                  case rel => exact ⟨t + 1, A0, m0, c0, A1, m1, c1, A2, m2, c2, by omega, rfl, by go_num, by rw [HT.out, HL.out, HU.out]; exact HS3.out⟩
                · have hz : ((q : Int) == 0) = false := by simp; omega
                  have hp : (q : Int) > 0 := by omega
                  have HU : Hid (mk (pU FA ms) (t + 1) = mk (pU FA ms) t ++ [(t : Int)]) := Lib.hid (mk_yes (by unfold pU; rw [← HQE.out, decide_eq_true (show 0 < q by omega), decide_eq_true hin']; rfl))
                  by_cases hg : (q : Int) > 1
                  · have HT : Hid (mk (pT FA) (t + 1) = mk (pT FA) t ++ [(t : Int)]) := Lib.hid (mk_yes (by unfold pT; rw [← HQE.out]; exact decide_eq_true (by omega)))
                    clear z0 HQE hin hin'
                    have hnew := Lib.hid (Rd.of_own (own_new w2 3 #[.int .i64 (t : Int)] 1 1 rfl (by simp [maxLen]) (Nat.le_refl _)))
                    have f1 := HS3.out.cell 0 rfl (k := 0) rfl
                    go_upto_region 26 with (at_builtin; refine wpList_append_sep (HS3.out.alloc _) (0 + 1) rfl (.tmp 111) (.tmp 113) 23 rfl 3 i0 (.int .i64 0) 1 8 Try.underlying23 hi hz0 hz1 hz2 rfl (by omega) _ m0 _ rfl rfl _ _ 1 1 _ rfl hnew.out (by simp [Value.oneCell']) (by simp only [maxLen]; omega) (by omega) ?_; intro A9 c9 w9 hc9 hs9 H3'; have H3 := Lib.hid H3'; have v0 := H3'.froz 0 rfl (k := 0); have v1 := H3'.cell 0 rfl (k := 0) rfl; clear H3' f1)
                    have HQ9 := Lib.hid (ql_app0 H3.out)
                    clear H3 v0 v1 hnew hc9 hs9 HS3
                    generalize w9.setCell ⟨g7, 0, none⟩ (.slice A9 (m0 + 1) c9) = w8 at HQ9 ⊢
                    obtain ⟨A7, hA7⟩ : ∃ A7, A7 = A9 := ⟨_, rfl⟩
                    obtain ⟨c7, hc7⟩ : ∃ c7, c7 = c9 := ⟨_, rfl⟩
                    rw [← hA7, ← hc7] at HQ9
                    clear hA7 hc7
                    have HQ8 := HQ9
                    clear HQ9
                    have hnew := Lib.hid (Rd.of_own (own_new w8 3 #[.int .i64 (t : Int)] 1 1 rfl (by simp [maxLen]) (Nat.le_refl _)))
                    have f1 := HQ8.out.cell 0 rfl (k := 2) rfl
                    go_wp2_with (at_builtin; refine wpList_append_sep (HQ8.out.alloc _) (2 + 1) rfl (.tmp 134) (.tmp 136) 23 rfl 3 i0 (.int .i64 0) 1 8 Try.underlying23 hi hz0 hz1 hz2 rfl (by omega) _ m2 _ rfl rfl _ _ 1 1 _ rfl hnew.out (by simp [Value.oneCell']) (by simp only [maxLen]; omega) (by omega) ?_; intro A9 c9 w9 hc9 hs9 H3'; have H3 := Lib.hid H3'; have v0 := H3'.froz 0 rfl (k := 2); have v1 := H3'.cell 0 rfl (k := 2) rfl; clear H3' f1)
                    have HQ9 := Lib.hid (ql_app2 H3.out)
                    clear H3 v0 v1 hnew hc9 hs9 HQ8
                    go_roundg (Z - (t + 1))
                    case measure => omega
                    case rel => exact ⟨t + 1, A7, m0 + 1, c7, A1, m1, c1, A9, m2 + 1, c9, by omega, rfl, by go_num, by rw [HT.out, HL.out, HU.out]; exact HQ9.out⟩
                  · have HT : Hid (mk (pT FA) (t + 1) = mk (pT FA) t) := Lib.hid (mk_no (by unfold pT; rw [← HQE.out]; exact decide_eq_false (by omega)))
                    clear z0 HQE hin hin'
                    have hnew := Lib.hid (Rd.of_own (own_new w2 3 #[.int .i64 (t : Int)] 1 1 rfl (by simp [maxLen]) (Nat.le_refl _)))
                    have f1 := HS3.out.cell 0 rfl (k := 2) rfl
                    go_wp2_with (at_builtin; refine wpList_append_sep (HS3.out.alloc _) (2 + 1) rfl (.tmp 134) (.tmp 136) 23 rfl 3 i0 (.int .i64 0) 1 8 Try.underlying23 hi hz0 hz1 hz2 rfl (by omega) _ m2 _ rfl rfl _ _ 1 1 _ rfl hnew.out (by simp [Value.oneCell']) (by simp only [maxLen]; omega) (by omega) ?_; intro A9 c9 w9 hc9 hs9 H3'; have H3 := Lib.hid H3'; have v0 := H3'.froz 0 rfl (k := 2); have v1 := H3'.cell 0 rfl (k := 2) rfl; clear H3' f1)
                    have HQ9 := Lib.hid (ql_app2 H3.out)
                    clear H3 v0 v1 hnew hc9 hs9 HS3
                    go_roundg (Z - (t + 1))
                    case measure => omega
                    case rel => exact ⟨t + 1, A0, m0, c0, A1, m1, c1, A9, m2 + 1, c9, by omega, rfl, by go_num, by rw [HT.out, HL.out, HU.out]; exact HQ9.out⟩
            · obtain rfl : t = Z := by omega
              have HB := Lib.hid (HS.out.blk 5 rfl)
              have HW := Lib.hid (HS.out.whole 5 rfl [.slice A0 m0 c0, .slice A1 m1 c1, .slice A2 m2 c2, .slice A3 M c3])
              have e0 := HS.out.cell 0 rfl (k := 0) rfl
              have e1 := HS.out.cell 0 rfl (k := 1) rfl
              have e2 := HS.out.cell 0 rfl (k := 2) rfl
              have e3 := HS.out.cell 0 rfl (k := 3) rfl
              go_wp2_with (refine wpList_store_row rfl 25 (.tmp 6) (.tmp 140) rfl g6 _ rfl rfl 25 #[.slice none 0 0, .slice none 0 0, .slice none 0 0, .slice none 0 0] HB.out faults_size rfl (by simp [Value.oneCell']) ?_)
              have hld : (loadVar 25 ⟨g6, 0, none⟩).run Try.prog (wr.setRow g6 #[.slice A0 m0 c0, .slice A1 m1 c1, .slice A2 m2 c2, .slice A3 M c3]) = .ok (.agg #[.slice A0 m0 c0, .slice A1 m1 c1, .slice A2 m2 c2, .slice A3 M c3]) _ :=
                run_loadVar_row _ g6 25 25 _ (0, 0) _ (HW.out.blk 5 rfl) Try.underlying25 rfl faults_size
              refine bodyPost_ret (v := .agg #[.slice A0 m0 c0, .slice A1 m1 c1, .slice A2 m2 c2, .slice A3 M c3]) (by simp [results, Try.results8, Act.put, asAddr, hld]) rfl ?_
              exact ⟨_, ⟨mk (pT FA) t, mk (pL FA ms) t, mk (pU FA ms) t, NS⟩, rfl, Lib.hid ⟨rfl, rfl, rfl, HNS.out.1, HNS.out.2⟩, HW.out.below, A0, m0, c0, A1, m1, c1, A2, m2, c2, A3, M, c3, rfl, frd_row HW.out 1 rfl, frd_row HW.out 2 rfl, frd_row HW.out 3 rfl, frd_row HW.out 4 rfl⟩
end Fk
end Go.Proofs.Ytlgknolcknlinaa
