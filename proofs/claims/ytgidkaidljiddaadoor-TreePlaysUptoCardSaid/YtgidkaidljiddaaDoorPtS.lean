/-
  Paths: walk of the reference's PParts. Conditions: none beyond each theorem's own premises.
-/
import Derived.Test.YtgidkaidljiddaaDoorPtQ
namespace Go.Proofs.YtgidkaidljiddaaDoor
open Go.RowKit Go.Shelf
set_option linter.unusedVariables false
namespace Pt

theorem bytes_of (x : By) (S : ByteArray) (hS : bs x = S) (w : World) : ∃ (c : Nat) (w1 : World), (convert 9 57 (.string S)).run Tryd.prog w = .ok (.slice (some ⟨w.heap.size, 0, none⟩) x.length c) w1 ∧ Below w.heap.size w w1 ∧ w.heap.size < w1.heap.size ∧ ∀ (i : Nat) (b : UInt8), x[i]? = some b → w1.cell? ⟨w.heap.size, i, none⟩ = some (.int .u8 (b.toNat : Int)) := by
  subst hS
  have hrun := run_bytes_of_string w 9 57 5 (bs x) Tryd.underlying9 Tryd.underlying57 Tryd.underlying5
  rw [bs_size] at hrun
  refine ⟨_, _, hrun, ((Below.refl _ _).drew).alloc (Nat.le_refl _) _, (by show w.heap.size < (w.heap.push _).size; simp), fun i b hb => ?_⟩
  obtain ⟨hi0, hib⟩ := List.getElem?_eq_some_iff.1 hb
  have hi : i < (bs x).size := by rw [bs_size]; exact hi0
  have hh := heap_alloc_new w.drew (.cells (bytesRow (bs x) (grownCap w x.length 0 5)) 5 ((bytesRow (bs x) (grownCap w x.length 0 5)).size, (bytesRow (bs x) (grownCap w x.length 0 5)).size + 1))
  have hh2 : (w.drew.alloc (.cells (bytesRow (bs x) (grownCap w x.length 0 5)) 5 ((bytesRow (bs x) (grownCap w x.length 0 5)).size, (bytesRow (bs x) (grownCap w x.length 0 5)).size + 1))).heap[w.heap.size]? = some (.cells (bytesRow (bs x) (grownCap w x.length 0 5)) 5 ((bytesRow (bs x) (grownCap w x.length 0 5)).size, (bytesRow (bs x) (grownCap w x.length 0 5)).size + 1)) := hh
  rw [cell_of_row _ _ i _ _ _ hh2, bytesRow_at (bs x) _ i hi]
  have e : (bs x).data[i]'hi = b := by
    rw [← hib]
    simp [bs]
  rw [e]
theorem one_byte (b : UInt8) (w : World) : (convert 57 9 (.slice (some ⟨w.heap.size, 0, none⟩) 1 1)).run Tryd.prog (w.alloc (.cells #[.int .u8 (b.toNat : Int)] 5)) = .ok (.string (bs [b])) (w.alloc (.cells #[.int .u8 (b.toNat : Int)] 5)) := by
  have hr := Rd.of_own (own_new w 5 #[.int .u8 (b.toNat : Int)] 1 1 rfl (by simp [maxLen]) (Nat.le_refl _))
  have h := run_str_rd (c := 1) (l := [b.toNat]) 57 9 5 Tryd.underlying57 Tryd.underlying5 Tryd.underlying9 hr (by
    intro x hx
    rw [List.mem_singleton.1 hx]
    exact b.toNat_lt)
  rw [h]
  have e : strOf [b.toNat] = bs [b] := by simp [strOf, bs]
  rw [e]
theorem rfold_len : ∀ (l : By) (st : List By × By), (l.foldl rstep st).1.length ≤ st.1.length + l.length ∧ (l.foldl rstep st).2.length ≤ st.2.length + l.length
  | [], st => by simp
  | b :: l, st => by
    have ih := rfold_len l (rstep st b)
    have h : (rstep st b).1.length ≤ st.1.length + 1 ∧ (rstep st b).2.length ≤ st.2.length + 1 := by
      unfold rstep
      split
      · simp
      · refine ⟨?_, by simp⟩
        simp only
        unfold stp
        split
        · omega
        · split
          · rw [List.length_take]; omega
          · simp
    rw [List.foldl_cons, List.length_cons]
    omega
theorem rstep_in {st : List By × By} {b : UInt8} (h : b ≠ 47) : rstep st b = (st.1, st.2 ++ [b]) := by unfold rstep; rw [if_pos h]
theorem rstep_end {st : List By × By} {b : UInt8} (h : b = 47) : rstep st b = (stp st.1 st.2, []) := by unfold rstep; rw [if_neg (by simp [h])]

set_option maxRecDepth 100000 in
set_option maxHeartbeats 3200000 in
theorem pparts_any (s : By) (hs : s.length ≤ 2097160) (w : World) :
    Calls Tryd.prog 14 #[.string (bs s)] w (SliceRet w 9 1 (parts s).length ((parts s).flatMap sc)) := by
  obtain ⟨ti, hti, t0, t1, t2⟩ := info_parts string_info
  obtain ⟨S, hS⟩ : ∃ S, bs s ++ (⟨#[47]⟩ : ByteArray) = S := ⟨_, rfl⟩
  obtain ⟨xs, hxs⟩ : ∃ xs, s ++ [47] = xs := ⟨_, rfl⟩
  obtain ⟨cb, w1, hcv, hb1, hlt1, hcell⟩ := bytes_of xs S (by rw [← hS, ← hxs, bs_slash, bs_cat]) w
  obtain ⟨N, hN⟩ : ∃ N, xs.length = N := ⟨_, rfl⟩
  have hN2 : N ≤ 2097161 := by rw [← hN, ← hxs]; simp; omega
  have z0 : (bs s).size + 1 ≤ 9223372036854775807 := by rw [bs_size]; omega
  have B1 := Lib.hid hb1
  have HC := Lib.hid hcell
  have HN := Lib.hid hN
  have HP : Hid (xs.foldl rstep ([], []) = (parts s, [])) := Lib.hid (by rw [← hxs]; exact ref_parts s)
  rw [hN] at hcv
  clear hb1 hcell hxs hN
  generalize w.heap.size = gb at hcv hlt1 HC
  go_enter Tryd.func14, Tryd.ntmps14
  go_wp2
  go_loopg [3, 4, 11] N (fun g o t i wr => ∃ (k : Nat) (out : List By) (nm : By) (A : Option Addr) (n c : Nat), k ≤ N ∧ g = N - k ∧ Hid ((xs.take k).foldl rstep ([], []) = (out, nm)) ∧ o = .slice A n c ∧ Hid (out.length = n) ∧ t = .string (bs nm) ∧ i = .int .i64 k ∧ Sep w1 wr [.row 9 1 (.slice A n c) n (out.flatMap sc)])
  case atStart => exact ⟨0, [], [], none, 0, 0, Nat.zero_le _, rfl, Lib.hid rfl, rfl, Lib.hid rfl, rfl, rfl, (Sep.nil_ w1).nilRow 9 1 none⟩
  case round =>
    obtain ⟨k, out, nm, A, n, c, hk, rfl, HF, rfl, HO, rfl, rfl, hs1⟩ := hrel
    have HS := Lib.hid hs1
    have hnc : n ≤ c := by
      obtain ⟨A', c', e, h⟩ := (hs1.rowHas 0 rfl).slice
      cases e
      exact h
    have hlen : n ≤ 2097161 ∧ nm.length ≤ 2097161 := by
      have h := rfold_len (xs.take k) ([], [])
      rw [HF.out] at h
      simp only [List.length_nil, List.length_take, HN.out, HO.out] at h
      omega
    clear hs1
    by_cases hlt : k < N
    · obtain ⟨b, hb⟩ : ∃ b, xs[k]? = some b := ⟨_, List.getElem?_eq_getElem (by rw [HN.out]; exact hlt)⟩
      have d1 : wr.cell? ⟨gb, k, none⟩ = some (.int .u8 (b.toNat : Int)) := (HS.out.below.cell (p := ⟨gb, k, none⟩) hlt1).trans (HC.out k b hb)
      have hnx : (xs.take (k + 1)).foldl rstep ([], []) = rstep (out, nm) b := by rw [List.take_add_one, hb, List.foldl_append, HF.out]; rfl
      have HNX := Lib.hid hnx
      have i0 : (0 : Int) ≤ (k : Int) := by omega
      have i1 : (k : Int) < (N : Int) := by omega
      have hbl : b.toNat < 256 := b.toNat_lt
      clear hnx hb
      by_cases hb47 : b = 47
      · have hne : ((b.toNat : Int) != 47) = false := by rw [hb47]; rfl
        have HNX2 : Hid ((xs.take (k + 1)).foldl rstep ([], []) = (stp out nm, [])) := Lib.hid (by rw [HNX.out, rstep_end hb47])
        clear hb47 HNX
        by_cases h1 : nm = []
        · have z1 : (bs nm).toList.isEmpty = true := by rw [bs_toList, h1]; rfl
          have z3 : ((bs nm).toList == [46, 46]) = false := by rw [bs_toList, h1]; rfl
          have HST : Hid (stp out nm = out) := Lib.hid (by unfold stp; rw [if_pos (.inl h1)])
          clear h1
          go_wp2
          go_roundg (N - (k + 1))
          case measure => omega
          case rel => exact ⟨k + 1, out, [], A, n, c, by omega, rfl, by rw [HST.out] at HNX2; exact HNX2, rfl, HO, rfl, by go_num, HS.out⟩
        · have z1 : (bs nm).toList.isEmpty = false := by rw [bs_toList]; simp [h1]
          by_cases h2 : nm = [46]
          · have z2 : ((bs nm).toList == [46]) = true := by rw [bs_toList, h2]; rfl
            have z3 : ((bs nm).toList == [46, 46]) = false := by rw [bs_toList, h2]; rfl
            have HST : Hid (stp out nm = out) := Lib.hid (by unfold stp; rw [if_pos (.inr h2)])
            clear h1 h2
            go_wp2
            go_roundg (N - (k + 1))
            case measure => omega
            case rel => exact ⟨k + 1, out, [], A, n, c, by omega, rfl, by rw [HST.out] at HNX2; exact HNX2, rfl, HO, rfl, by go_num, HS.out⟩
          · have z2 : ((bs nm).toList == [46]) = false := by rw [bs_toList]; simp [h2]
            by_cases h3 : nm = [46, 46]
            · have z3 : ((bs nm).toList == [46, 46]) = true := by rw [bs_toList, h3]; rfl
              have HST : Hid (stp out nm = out.take (n - 1)) := Lib.hid (by unfold stp; rw [if_neg (fun h => h.elim h1 h2), if_pos h3, HO.out])
              have HL1 : Hid ((out.take (n - 1)).length = n - 1) := Lib.hid (by rw [List.length_take, HO.out]; omega)
              have HS2 := Lib.hid (sep_shorter HS.out 0 rfl (Nat.sub_le n 1))
              clear h1 h2 h3
              by_cases hn0 : 0 < n
              · have i5 : (0 : Int) < (n : Int) := by omega
                have i6 : (0 : Int) ≤ (n : Int) - 1 := by omega
                have i7 : (n : Int) - 1 ≤ (c : Int) := by omega
                go_wp2
                go_roundg (N - (k + 1))
                case measure => omega
                case rel => exact ⟨k + 1, out.take (n - 1), [], A, n - 1, c, by omega, rfl, by rw [HST.out] at HNX2; exact HNX2, rfl, HL1, rfl, by go_num, by have h := HS2.out; rw [flat_take sc_len] at h; exact h⟩
              · obtain rfl : n = 0 := by omega
                have ho : out = [] := List.eq_nil_of_length_eq_zero HO.out
                have HST2 : Hid (stp out nm = out) := Lib.hid (by rw [HST.out, ho]; rfl)
                clear ho
                go_wp2
                go_roundg (N - (k + 1))
                case measure => omega
                case rel => exact ⟨k + 1, out, [], A, 0, c, by omega, rfl, by rw [HST2.out] at HNX2; exact HNX2, rfl, HO, rfl, by go_num, HS.out⟩
            · have z3 : ((bs nm).toList == [46, 46]) = false := by rw [bs_toList]; simp [h3]
              have HST : Hid (stp out nm = out ++ [nm]) := Lib.hid (by unfold stp; rw [if_neg (fun h => h.elim h1 h2), if_neg h3])
              have hnew := Rd.of_own (own_new wr 9 #[.string (bs nm)] 1 1 rfl (by simp [maxLen]) (Nat.le_refl _))
              have HO1 : Hid ((out ++ [nm]).length = n + 1) := Lib.hid (by rw [List.length_append, HO.out]; rfl)
              clear h1 h2 h3
              go_wp2_with (at_builtin; refine wpList_append_sep (HS.out.alloc _) 0 rfl (.tmp 44) (.tmp 46) 42 rfl 9 ti (.string ⟨#[]⟩) 1 16 Tryd.underlying42 hti t0 t1 t2 rfl (by omega) _ n _ rfl rfl _ _ 1 1 _ rfl hnew (by simp [Value.oneCell']) (by simp only [maxLen]; omega) (by omega) ?_; intro A6 c6 w3 hc6 hsz3 hs3)
              go_roundg (N - (k + 1))
              case measure => omega
              case rel => exact ⟨k + 1, out ++ [nm], [], A6, n + 1, c6, by omega, rfl, by rw [HST.out] at HNX2; exact HNX2, rfl, HO1, rfl, by go_num, by rw [List.flatMap_append]; exact hs3⟩
      · have hne : ((b.toNat : Int) != 47) = true := by
          have : b.toNat ≠ 47 := fun e => hb47 (UInt8.toNat_inj.1 e)
          simp
          omega
        have HNX2 : Hid ((xs.take (k + 1)).foldl rstep ([], []) = (out, nm ++ [b])) := Lib.hid (by rw [HNX.out, rstep_in hb47])
        have hc2 := one_byte b wr
        have z1 : (bs nm).size + (bs [b]).size ≤ 9223372036854775807 := by rw [bs_size, bs_size]; simp; omega
        have HE : Hid (bs nm ++ bs [b] = bs (nm ++ [b])) := Lib.hid (bs_cat _ _)
        clear hb47 HNX
        go_wp2
        go_roundg (N - (k + 1))
        case measure => omega
        case rel => exact ⟨k + 1, out, nm ++ [b], A, n, c, by omega, rfl, HNX2, rfl, HO, by rw [HE.out], by go_num, HS.out.alloc _⟩
    · obtain rfl : k = N := by omega
      have hout : out = parts s := by
        have h := HF.out
        rw [List.take_of_length_le (by rw [HN.out]; omega), HP.out] at h
        exact (congrArg Prod.fst h).symm
      have HOUT := Lib.hid hout
      clear hout
      go_wp2
      go_ret
      have hfin := ((Sep.nil_ w).later B1.out).join HS.out
      rw [← HOUT.out, HO.out]
      exact ⟨A, c, hnc, rfl, hfin⟩
end Pt
end Go.Proofs.YtgidkaidljiddaaDoor
