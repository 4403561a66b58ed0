/-
  Walk of the law TopMended. Conditions: none beyond each theorem's own premises.
-/
import Derived.Test.YtgfldhdmdeeknaaGreatDoorBnTa
import Derived.Test.YtgfldhdmdeeknaaGreatDoorTmM
import Derived.Test.YtgfldhdmdeeknaaGreatDoorPart
namespace Go.Proofs.YtgfldhdmdeeknaaGreatDoor
open Go.RowKit Go.Shelf Go.Sort
set_option linter.unusedVariables false
namespace Tm
open _root_.Go.Proofs.YtgfldhdmdeeknaaGreatDoor.Ecc _root_.Go.Proofs.YtgfldhdmdeeknaaGreatDoor.Crc _root_.Go.Proofs.YtgfldhdmdeeknaaGreatDoor.Bn _root_.Go.Proofs.YtgfldhdmdeeknaaGreatDoor.So

theorem own_sep {w w' : World} {E size n : Nat} {v : Value} {xs : List Value} (hb : Below w.heap.size w w') (h : w'.ownsRow w.heap.size E size v n xs) : Sep w w' [.row E size v n xs] := by
  refine ((Sep.nil_ w).later hb).push (y := .row E size v n xs) (Row.of_own h) (fun g e => ⟨?_, by simp⟩)
  obtain ⟨_, h2⟩ := h
  have e' : rowBlk v = some g := e
  rcases h2 with ⟨rfl, _⟩ | ⟨g', cap, cur, rfl, hb', _⟩
  · simp [rowBlk] at e'
  · cases cap with
    | zero => simp [rowBlk] at e'
    | succ c =>
      simp [rowBlk] at e'
      omega
theorem byte_wrap (ch : List Nat) (i x : Nat) (h : ∀ x ∈ ch, x < 256) (hx : ch[i]? = some x) : IntKind.u8.wrap ((val ch : Int) / 2 ^ (8 * i)) = (x : Int) := by
  have h1 := val_at ch i x h hx
  have e : (val ch : Int) / 2 ^ (8 * i) = ((val ch / 2 ^ (8 * i) : Nat) : Int) := by
    rw [Int.natCast_ediv]
    simp
  rw [e]
  generalize val ch / 2 ^ (8 * i) = y at h1
  have e2 : IntKind.u8.wrap (y : Int) = ((y % 256 : Nat) : Int) := by
    simp [IntKind.wrap, IntKind.bits, IntKind.signed]
  rw [e2, h1]
theorem shl_word (x f : Nat) (hx : x < 256) (hf : f ≤ 56) : IntKind.u64.wrap ((x : Int) * 2 ^ f) = ((x * 2 ^ f : Nat) : Int) ∧ x * 2 ^ f < 18446744073709551616 := by
  have h2 : 2 ^ f ≤ 2 ^ 56 := Nat.pow_le_pow_right (by omega) hf
  have h3 : x * 2 ^ f ≤ 255 * 2 ^ 56 := Nat.mul_le_mul (by omega) h2
  have h4 : x * 2 ^ f < 18446744073709551616 := by
    have : 255 * 2 ^ 56 < 18446744073709551616 := by decide
    omega
  refine ⟨?_, h4⟩
  have e : (x : Int) * 2 ^ f = ((x * 2 ^ f : Nat) : Int) := by simp
  rw [e]
  generalize x * 2 ^ f = y at h4
  simp [IntKind.wrap, IntKind.bits, IntKind.signed]
  omega

theorem mend_c (D C V : Nat) (hD : D < 18446744073709551616) (hC : C < 256) (hM : Mends V (mendA D C)) : ∃ a b : Nat, ∀ W, Calls Tryz.prog 7 #[.int .u64 (D : Int), .int .u8 (C : Int)] W (Ret W (.tuple #[.int .u64 (V : Int), .int .u8 (a : Int), .int .i64 (b : Int), .int .i64 0])) := by
  obtain ⟨h1, h2⟩ := hM
  refine ⟨(mendA D C).2.1, (mendA D C).2.2.1, fun W => ?_⟩
  have h := mend_any D C hD hC W
  unfold mval at h
  rw [h1, h2] at h
  exact h
set_option maxRecDepth 100000 in
set_option maxHeartbeats 12800000 in
theorem topMended_walk (A : Option Addr) (n c : Nat) (l : List Nat) (AB : Option Addr) (nb cb : Nat) (bl : List Int) (w : World) (hr : Rd w w.heap.size 1 A n (l.flatMap bcell)) (hl : l.length = n) (hn : n ≤ 9223372036854775807) (hb : ∀ x ∈ l, x < 256)
    (hrb : Rd w w.heap.size 1 AB nb (bl.flatMap icell)) (hlb : bl.length = nb) (hnb : nb ≤ 9223372036854775807) (hg : Gl w) :
    Calls Tryz.prog 3 #[.slice A n c, .slice AB nb cb] w (Ret w (.bool true)) := by
  obtain ⟨ti, hti, t0, t1, t2⟩ := info_parts byte_info
  have cA := Lib.hid (alive_any w hg)
  by_cases hbig : 4096 < n
  · have cS := Lib.hid (fun W (hW : Below w.heap.size w W) => (seal_any A n c l W (hr.later hW) hl (by omega) hb).mono (R' := fun e w' => ∃ A1 c1, e = .returned (.tuple #[.slice A1 0 c1, .int .i64 2]) ∧ Below W.heap.size W w') (by
      rintro e w' ⟨v, he, ho, hb'⟩
      rw [sealE_no (l := l) (by omega)] at he ho
      obtain ⟨A1, c1, rfl⟩ := own_slice ho
      exact ⟨A1, c1, he, hb'⟩))
    clear hr hrb hg hb
    go_enter Tryz.func3, Tryz.ntmps3
    go_wp2_with fail
    refine cA.out.mono ?_; rintro en w1 ⟨rfl, hb1⟩
    have B1 := Lib.hid hb1
    clear hb1 cA
    go_wp2_with fail
    refine (cS.out w1 B1.out).mono ?_; rintro en w2 ⟨A1, c1, rfl, hb2⟩
    have B2 := Lib.hid (B1.out.trans (hb2.mono B1.out.size))
    clear hb2 cS B1
    go_wp2
    go_ret
    exact Ret.mk rfl B2.out
  · have hsl := sumB_lt l 65535 (by omega)
    obtain ⟨B, hB⟩ : ∃ B, l ++ tail2 (sumB 65535 l) = B := ⟨_, rfl⟩
    have hBl : B.length = n + 2 := by rw [← hB]; simp [tail2, hl]
    have hBb : ∀ x ∈ B, x < 256 := fun x hx => by
      rw [← hB] at hx
      rcases List.mem_append.1 hx with h | h
      · exact hb x h
      · simp only [tail2, List.mem_cons, List.not_mem_nil, or_false] at h
        rcases h with rfl | rfl <;> omega
    have hOB : openE B = (l, 0) := by rw [← hB]; exact open_seal l (by omega) hb
    obtain ⟨n2, hn2⟩ : ∃ n2, n + 2 = n2 := ⟨_, rfl⟩
    rw [hn2] at hBl
    have cS := Lib.hid (fun W (hW : Below w.heap.size w W) => (seal_any A n c l W (hr.later hW) hl (by omega) hb).mono (R' := fun e w' => ∃ A1 c1, e = .returned (.tuple #[.slice A1 n2 c1, .int .i64 0]) ∧ Sep W w' [.row 5 1 (.slice A1 n2 c1) n2 (B.flatMap bcell)]) (by
      rintro e w' ⟨v, he, ho, hb'⟩
      rw [sealE_yes (l := l) (by omega)] at he ho
      simp only at he ho
      rw [hB, hBl] at ho
      obtain ⟨A1, c1, rfl⟩ := own_slice ho
      exact ⟨A1, c1, he, own_sep hb' ho⟩))
    have cO := Lib.hid (fun A1 c1 W (h : Rd W W.heap.size 1 A1 n2 (B.flatMap bcell)) (hc : n2 ≤ c1) => (open_any A1 n2 c1 B W h hBl (by omega) hc hBb).mono (R' := fun e w' => ∃ A3 c3, e = .returned (.tuple #[.slice A3 n c3, .int .i64 0]) ∧ Below W.heap.size W w' ∧ Rd w' w'.heap.size 1 A3 n (l.flatMap bcell)) (by
      rintro e w' ⟨v, he, ho, hb'⟩
      rw [hOB] at he ho
      simp only at he ho
      rw [hl] at ho
      obtain ⟨A3, c3, rfl⟩ := own_slice ho
      exact ⟨A3, c3, he, hb', Rd.of_own ho⟩))
    have HR := Lib.hid hr
    have HRB := Lib.hid hrb
    have HLB := Lib.hid hlb
    have HLN := Lib.hid hl
    have HBB := Lib.hid hBb
    have HBL := Lib.hid hBl
    have HLS := Lib.hid hb
    have hn4 : n2 ≤ 4098 := by omega
    have HN2 := Lib.hid hn2
    obtain ⟨Q, N, hQ1, hQ2, hQ3⟩ : ∃ Q N : Nat, N = 8 * Q ∧ n2 ≤ N ∧ N < n2 + 8 := ⟨(n2 + 7) / 8, 8 * ((n2 + 7) / 8), rfl, by omega, by omega⟩
    have HQ1 := Lib.hid hQ1
    have hN4 : N ≤ 4104 := by omega
    clear hr hrb hg hb hl hlb hB hBl hBb hOB hsl hn2 hbig hn hQ1
    go_enter Tryz.func3, Tryz.ntmps3
    go_wp2_with fail
    refine cA.out.mono ?_; rintro en w1 ⟨rfl, hb1⟩
    have B1 := Lib.hid hb1
    clear hb1 cA
    go_wp2_with fail
    refine (cS.out w1 B1.out).mono ?_; rintro en w2 ⟨A1, c1, rfl, hs2⟩
    have H2 := Lib.hid (((Sep.nil_ w).later B1.out).join hs2)
    clear hs2 cS B1
    go_wp2
    go_loopg [5] (N - n2) (fun g v5 wr => ∃ (m : Nat) (A5 : Option Addr) (c5 : Nat), n2 ≤ m ∧ m ≤ N ∧ g = N - m ∧ v5 = .slice A5 m c5 ∧ Sep w wr [.row 5 1 (.slice A5 m c5) m ((B ++ List.replicate (m - n2) 0).flatMap bcell)])
    case atStart => exact ⟨n2, A1, c1, Nat.le_refl _, hQ2, rfl, rfl, by rw [Nat.sub_self, List.replicate_zero, List.append_nil]; exact H2.out⟩
    case round =>
      clear H2
      obtain ⟨m, A5, c5, hm1, hm2, rfl, rfl, hs⟩ := hrel
      have HS := Lib.hid hs
      clear hs
      obtain ⟨r, hr⟩ : ∃ r : Nat, m % 8 = r := ⟨_, rfl⟩
      have v1 : (m : Int) % 8 = (r : Int) := by omega
      by_cases hlt : m < N
      · have i1 : (0 : Int) < (r : Int) := by have := HQ1.out; omega
        have HTM : Hid ((B ++ List.replicate (m + 1 - n2) 0).flatMap bcell = (B ++ List.replicate (m - n2) 0).flatMap bcell ++ [.int .u8 0]) := Lib.hid (by
          rw [show m + 1 - n2 = (m - n2) + 1 by omega, List.replicate_succ', ← List.append_assoc, List.flatMap_append]
          rfl)
        have hnew := Lib.hid (Rd.of_own (own_new wr 5 #[.int .u8 0] 1 1 rfl (by simp [maxLen]) (Nat.le_refl _)))
        clear hr
        go_wp2_with (at_builtin; refine wpList_append_sep (HS.out.alloc _) 0 rfl (.tmp 40) (.tmp 41) 22 rfl 5 ti (.int .u8 0) 1 1 Tryz.underlying22 hti t0 t1 t2 rfl (by omega) _ m _ rfl rfl _ _ 1 1 _ rfl hnew.out (by simp [Value.oneCell']) (by simp only [maxLen]; omega) (by omega) ?_; intro A6 c6 w6 hc6 hs6 H6'; have H6 := Lib.hid H6'; clear H6' hs6)
        go_roundg (N - (m + 1))
        case measure => omega
        case rel => exact ⟨m + 1, A6, c6, by omega, by omega, rfl, rfl, by rw [HTM.out]; exact H6.out.pick [0] (by decide) (by simp)⟩
      · obtain rfl : m = N := by omega
        have i1 : ¬ (0 : Int) < (r : Int) := by have := HQ1.out; omega
        obtain ⟨bb, hbb⟩ : ∃ bb, B ++ List.replicate (m - n2) 0 = bb := ⟨_, rfl⟩
        have HBT : Hid (bb.take n2 = B) := Lib.hid (by
          rw [← hbb, List.take_append_of_le_length (by rw [HBL.out]; exact Nat.le_refl _), List.take_of_length_le (by rw [HBL.out]; exact Nat.le_refl _)])
        have HBBL : Hid (bb.length = m) := Lib.hid (by rw [← hbb, List.length_append, HBL.out, List.length_replicate]; omega)
        have HB8 : Hid (∀ x ∈ bb, x < 256) := Lib.hid (fun x hx => by
          rw [← hbb] at hx
          rcases List.mem_append.1 hx with h | h
          · exact HBB.out x h
          · rw [(List.mem_replicate.1 h).2]; decide)
        rw [hbb] at HS
        have H3 := Lib.hid (HS.out.nilRow 5 1 none)
        have hmc5 : m ≤ c5 := by
          obtain ⟨A', c', e, h⟩ := (HS.out.rowHas 0 rfl).slice
          cases e
          exact h
        obtain ⟨N, hNN⟩ : ∃ N, m = N := ⟨_, rfl⟩
        clear hr hbb HS
        subst hNN
        clear hm1 hm2 hlt
        go_wp2
        generalize wr = wb at H3 ⊢
        go_loopg [8, 9] Q (fun g v8 v9 wr => ∃ (q e : Nat) (A8 : Option Addr) (c8 : Nat), q ≤ Q ∧ g = Q - q ∧ Hid (e = 8 * q) ∧ v9 = .int .i64 (e : Int) ∧ v8 = .slice A8 e c8 ∧ Sep w wr [.row 5 1 (.slice A5 m c5) m (bb.flatMap bcell), .row 5 1 (.slice A8 e c8) e ((bb.take e).flatMap bcell)])
        case atStart => exact ⟨0, 0, none, 0, Nat.zero_le _, rfl, Lib.hid rfl, rfl, rfl, H3.out⟩
        case round =>
          clear H3
          obtain ⟨q, e, A8, c8, hq, rfl, HE, rfl, rfl, hs⟩ := hrel
          have HS := Lib.hid hs
          clear hs
          by_cases hlt : q < Q
          · have i1 : (e : Int) < (m : Int) := by have := HQ1.out; have := HE.out; omega
            obtain ⟨e2, he2⟩ : ∃ e2, e + 8 = e2 := ⟨_, rfl⟩
            have HE2 : Hid (e2 = e + 8) := Lib.hid he2.symm
            have v1 : (e : Int) + 8 = (e2 : Int) := by omega
            have he2m : e2 ≤ m := by have := HQ1.out; have := HE.out; omega
            obtain ⟨A7, hsl, hrd⟩ := rd_part (P := Tryz.prog) (l := e) (h := e2) Tryz.underlying22 (size_of_info hti t1) (HS.out.rd 0 rfl) (by omega) he2m hmc5
            have hd8 : e2 - e = 8 := by omega
            rw [hd8] at hsl hrd
            obtain ⟨ch, hch⟩ : ∃ ch, (bb.take e2).drop e = ch := ⟨_, rfl⟩
            have hcell : ((bb.flatMap bcell).take (e2 * 1)).drop (e * 1) = ch.flatMap bcell := by
              rw [← hch, flat_take bcell_len, flat_drop bcell_len]
            rw [hcell] at hrd
            have HRD := Lib.hid (hrd wr (fun _ _ => rfl))
            have HCL : Hid (ch.length = 8) := Lib.hid (by rw [← hch, List.length_drop, List.length_take, HBBL.out]; omega)
            have HCB : Hid (∀ x ∈ ch, x < 256) := Lib.hid (fun x hx => HB8.out x (by rw [← hch] at hx; exact List.mem_of_mem_take (List.mem_of_mem_drop hx)))
            have HCH : Hid (∀ i, i < 8 → ∃ x, ch[i]? = some x ∧ x < 256 ∧ bb[e + i]? = some x) := Lib.hid (fun i hi => by
              obtain ⟨x, hx⟩ : ∃ x, ch[i]? = some x := ⟨_, List.getElem?_eq_getElem (by rw [HCL.out]; exact hi)⟩
              refine ⟨x, hx, HCB.out x (List.mem_of_getElem? hx), ?_⟩
              rw [← hch, List.getElem?_drop, List.getElem?_take_of_lt (by omega)] at hx
              exact hx)
            clear hrd hcell hch he2
            go_wp2
            go_loopg [10, 55] 8 (fun g v10 v55 wl => ∃ i : Nat, i ≤ 8 ∧ g = 8 - i ∧ v55 = .int .i64 (i : Int) ∧ v10 = .int .u64 (val (ch.take i) : Int) ∧ Below wr.heap.size wr wl)
            case atStart => exact ⟨0, by omega, rfl, rfl, rfl, Below.refl _ _⟩
            case round =>
              obtain ⟨i, hi, rfl, rfl, rfl, hB⟩ := hrel
              have HBW := Lib.hid hB
              clear hB
              by_cases hlt3 : i < 8
              · obtain ⟨x, hxi, hx8, _⟩ := HCH.out i hlt3
                obtain ⟨b, off, rfl, hbk, hc⟩ := HRD.out.at_ bcell_len (by omega)
                have q0 : wr.cell? ⟨b, off + i, none⟩ = some (.int .u8 (x : Int)) := (HBW.out.cell (p := ⟨b, off + i, none⟩) hbk).trans (by simpa using hc i 0 _ _ hxi rfl)
                obtain ⟨f, hf⟩ : ∃ f : Nat, 8 * i = f := ⟨_, rfl⟩
                have v2 : (8 : Int) * (i : Int) = (f : Int) := by omega
                have v3 : f ≤ 56 := by omega
                obtain ⟨S1, S2⟩ := shl_word x f hx8 v3
                have hlt8 : (ch.take i).length = i := by rw [List.length_take, HCL.out]; omega
                have hor : val (ch.take i) ||| (x * 2 ^ f) = val (ch.take (i + 1)) := by
                  have h := val_or x (ch.take i) (fun y hy => HCB.out y (List.mem_of_mem_take hy))
                  rw [hlt8, hf] at h
                  rw [h, List.take_add_one, hxi]
                  rfl
                have hV : val (ch.take i) < 18446744073709551616 := by
                  have h := val_lt (ch.take i) (fun y hy => HCB.out y (List.mem_of_mem_take hy))
                  rw [hlt8] at h
                  exact Nat.lt_of_lt_of_le h (Nat.pow_le_pow_right (by omega) (show 8 * i ≤ 64 by omega))
                have hO := u64_or_nat (val (ch.take i)) (x * 2 ^ f) hV S2
                rw [hor] at hO
                have i2 : (0 : Int) ≤ (i : Int) := by omega
                have i3 : (i : Int) < 8 := by omega
                obtain ⟨V1, hV1⟩ : ∃ V1, val (ch.take (i + 1)) = V1 := ⟨_, rfl⟩
                have HV1 := Lib.hid hV1
                rw [hV1] at hO
                generalize val (ch.take i) = V0 at hO hV ⊢
                generalize x * 2 ^ f = y at S1 S2 hO
                clear hV1 hor hlt8 hf hc hxi
                go_wp2
                go_roundg (8 - (i + 1))
                case measure => omega
                case rel => exact ⟨i + 1, by omega, rfl, by go_num, by rw [HV1.out], HBW.out⟩
              · obtain rfl : i = 8 := by omega
                have hch8 : ch.take 8 = ch := List.take_of_length_le (by rw [HCL.out]; exact Nat.le_refl _)
                rw [hch8]
                have hV : val ch < 18446744073709551616 := by
                  have h := val_lt ch HCB.out
                  rw [HCL.out] at h
                  exact h
                have cK := Lib.hid (fun W => check_any (val ch) hV W)
                have HVC := Lib.hid (Eq.refl (val ch))
                have hkl := checkN_lt (val ch)
                have M0 := mend_c (val ch) (checkN (val ch)) (val ch) hV hkl (mend_none _)
                have M1 := fun t (ht : t < 64) => mend_c (val ch ^^^ 2 ^ t) (checkN (val ch)) (val ch) (Nat.xor_lt_two_pow (n := 64) hV (Nat.pow_lt_pow_right (by omega) ht)) hkl (mend_bit _ t ht)
                have M2 := fun t (ht : t < 8) => mend_c (val ch) (checkN (val ch) ^^^ 2 ^ t) (val ch) hV (Nat.xor_lt_two_pow (n := 8) hkl (Nat.pow_lt_pow_right (by omega) ht)) (mend_chk _ t ht)
                obtain ⟨V, hVV⟩ : ∃ V, val ch = V := ⟨_, rfl⟩
                have HVV := Lib.hid hVV
                rw [hVV] at cK hV hkl M0 M1 M2
                rw [hVV]
                generalize checkN V = CK at cK hkl M0 M1 M2
                have HM0 := Lib.hid M0
                have HM1 := Lib.hid M1
                have HM2 := Lib.hid M2
                have HSW := Lib.hid (HS.out.later HBW.out)
                clear hch8 hVV M0 M1 M2 HS HBW HVC hlt3
                go_wp2_with fail
                refine (cK.out wr).mono ?_; rintro en w5 ⟨rfl, hb5⟩
                have HS5 := Lib.hid (HSW.out.later hb5)
                clear hb5 cK HSW
                have v5 : (e : Int) / 8 = (q : Int) := by have := HE.out; omega
                have w5b := HS5.out.below
                have HBW5 := Lib.hid w5b
                clear w5b
                by_cases hqb : q < nb
                · have i4 : (q : Int) < (nb : Int) := by omega
                  have i5 : (0 : Int) ≤ (q : Int) := by omega
                  obtain ⟨t, ht⟩ : ∃ t, bl[q]? = some t := ⟨_, List.getElem?_eq_getElem (by rw [HLB.out]; exact hqb)⟩
                  obtain ⟨b, off, rfl, hbk, hc⟩ := HRB.out.at_ icell_len (by omega)
                  have q0 : w5.cell? ⟨b, off + q, none⟩ = some (.int .i64 t) := (HBW5.out.cell (p := ⟨b, off + q, none⟩) hbk).trans (by simpa using hc q 0 _ _ ht rfl)
                  clear hc ht hbk
                  by_cases ht0 : t < 0
                  · have i6 : ¬ (0 : Int) ≤ t := by omega
                    have i7 : ¬ (64 : Int) ≤ t := by omega
                    obtain ⟨a, b', CM'⟩ := HM0.out
                    have CM := Lib.hid CM'
                    clear CM' HM0 HM1 HM2
                    go_wp2_with fail
                    refine (CM.out w5).mono ?_; rintro en w7 ⟨rfl, hb7⟩
                    have HS7 := Lib.hid (HS5.out.later hb7)
                    clear hb7 CM HS5
                    go_wp2
                    go_loopg [8, 111] 8 (fun g v8 v111 wl => ∃ (i : Nat) (A8 : Option Addr) (c8 mm : Nat), i ≤ 8 ∧ g = 8 - i ∧ v111 = .int .i64 (i : Int) ∧ Hid (mm = e + i) ∧ v8 = .slice A8 mm c8 ∧ Sep w wl [.row 5 1 (.slice A5 m c5) m (bb.flatMap bcell), .row 5 1 (.slice A8 mm c8) mm ((bb.take mm).flatMap bcell)])
                    case atStart => exact ⟨0, A8, c8, e, by omega, rfl, rfl, Lib.hid rfl, rfl, HS7.out⟩
                    case round =>
                      clear HS7
                      obtain ⟨i, A9, c9, mm, hi, rfl, rfl, HMI, rfl, hs⟩ := hrel
                      have HS := Lib.hid hs
                      clear hs
                      by_cases hlt : i < 8
                      · have i3 : (i : Int) < 8 := by omega
                        obtain ⟨x, hxi, hx8, hxm⟩ := HCH.out i hlt
                        have hmb : mm ≤ 4112 := by have := HMI.out; omega
                        obtain ⟨f, hf⟩ : ∃ f : Nat, 8 * i = f := ⟨_, rfl⟩
                        have v1 : (8 : Int) * (i : Int) = (f : Int) := by omega
                        have v2 : IntKind.u8.wrap ((V : Int) / 2 ^ f) = (x : Int) := by
                          rw [← hf, ← HVV.out]
                          exact byte_wrap ch i x HCB.out hxi
                        have v3 : f ≤ 56 := by omega
                        have HTM : Hid ((bb.take (mm + 1)).flatMap bcell = (bb.take mm).flatMap bcell ++ [.int .u8 (x : Int)]) := Lib.hid (by
                          have h9 : bb[mm]? = some x := by rw [HMI.out]; exact hxm
                          rw [List.take_add_one, h9, List.flatMap_append]
                          rfl)
                        have hnew := Lib.hid (Rd.of_own (own_new wr 5 #[.int .u8 (x : Int)] 1 1 rfl (by simp [maxLen]) (Nat.le_refl _)))
                        clear hf hxi hxm
                        go_wp2_with (at_builtin; refine wpList_append_sep (HS.out.alloc _) 1 rfl (.tmp 114) (.tmp 120) 22 rfl 5 ti (.int .u8 0) 1 1 Tryz.underlying22 hti t0 t1 t2 rfl (by omega) _ mm _ rfl rfl _ _ 1 1 _ rfl hnew.out (by simp [Value.oneCell']) (by simp only [maxLen]; omega) (by omega) ?_; intro A6 c6 w6 hc6 hs6 H6'; have H6 := Lib.hid H6'; clear H6' hs6)
                        go_roundg (8 - (i + 1))
                        case measure => omega
                        case rel => exact ⟨i + 1, A6, c6, mm + 1, by omega, rfl, by go_num, Lib.hid (by have := HMI.out; omega), rfl, by rw [HTM.out]; exact H6.out⟩
                      · obtain rfl : i = 8 := by omega
                        obtain rfl : mm = e2 := by rw [HMI.out, HE2.out]
                        have HF := HS
                        clear HS
                        go_wp2
                        go_roundg (Q - (q + 1))
                        case measure => omega
                        case rel => exact ⟨q + 1, mm, A9, c9, by omega, rfl, Lib.hid (by have := HE2.out; have := HE.out; omega), by go_num, rfl, HF.out⟩
                  · by_cases ht1 : t < 64
                    · obtain ⟨tn, rfl⟩ : ∃ tn : Nat, t = (tn : Int) := ⟨t.toNat, by omega⟩
                      have htn : tn < 64 := by omega
                      have i6 : (0 : Int) ≤ (tn : Int) := by omega
                      have hp : 2 ^ tn < 18446744073709551616 := Nat.lt_of_lt_of_le (Nat.pow_lt_pow_right (by omega) htn) (by decide)
                      have e1p := shl_big tn htn
                      have e2p := u64_xor_nat V (2 ^ tn) hV hp
                      obtain ⟨a, b', CM'⟩ := HM1.out tn htn
                      have CM := Lib.hid CM'
                      generalize V ^^^ 2 ^ tn = X at e2p CM
                      generalize 2 ^ tn = P2 at e1p e2p hp
                      clear CM' HM0 HM1 HM2 ht0
                      go_wp2_with fail
                      refine (CM.out w5).mono ?_; rintro en w7 ⟨rfl, hb7⟩
                      have HS7 := Lib.hid (HS5.out.later hb7)
                      clear hb7 CM HS5
                      go_wp2
                      go_loopg [8, 111] 8 (fun g v8 v111 wl => ∃ (i : Nat) (A8 : Option Addr) (c8 mm : Nat), i ≤ 8 ∧ g = 8 - i ∧ v111 = .int .i64 (i : Int) ∧ Hid (mm = e + i) ∧ v8 = .slice A8 mm c8 ∧ Sep w wl [.row 5 1 (.slice A5 m c5) m (bb.flatMap bcell), .row 5 1 (.slice A8 mm c8) mm ((bb.take mm).flatMap bcell)])
                      case atStart => exact ⟨0, A8, c8, e, by omega, rfl, rfl, Lib.hid rfl, rfl, HS7.out⟩
                      case round =>
                        clear HS7
                        obtain ⟨i, A9, c9, mm, hi, rfl, rfl, HMI, rfl, hs⟩ := hrel
                        have HS := Lib.hid hs
                        clear hs
                        by_cases hlt : i < 8
                        · have i3 : (i : Int) < 8 := by omega
                          obtain ⟨x, hxi, hx8, hxm⟩ := HCH.out i hlt
                          have hmb : mm ≤ 4112 := by have := HMI.out; omega
                          obtain ⟨f, hf⟩ : ∃ f : Nat, 8 * i = f := ⟨_, rfl⟩
                          have v1 : (8 : Int) * (i : Int) = (f : Int) := by omega
                          have v2 : IntKind.u8.wrap ((V : Int) / 2 ^ f) = (x : Int) := by
                            rw [← hf, ← HVV.out]
                            exact byte_wrap ch i x HCB.out hxi
                          have v3 : f ≤ 56 := by omega
                          have HTM : Hid ((bb.take (mm + 1)).flatMap bcell = (bb.take mm).flatMap bcell ++ [.int .u8 (x : Int)]) := Lib.hid (by
                            have h9 : bb[mm]? = some x := by rw [HMI.out]; exact hxm
                            rw [List.take_add_one, h9, List.flatMap_append]
                            rfl)
                          have hnew := Lib.hid (Rd.of_own (own_new wr 5 #[.int .u8 (x : Int)] 1 1 rfl (by simp [maxLen]) (Nat.le_refl _)))
                          clear hf hxi hxm
                          go_wp2_with (at_builtin; refine wpList_append_sep (HS.out.alloc _) 1 rfl (.tmp 114) (.tmp 120) 22 rfl 5 ti (.int .u8 0) 1 1 Tryz.underlying22 hti t0 t1 t2 rfl (by omega) _ mm _ rfl rfl _ _ 1 1 _ rfl hnew.out (by simp [Value.oneCell']) (by simp only [maxLen]; omega) (by omega) ?_; intro A6 c6 w6 hc6 hs6 H6'; have H6 := Lib.hid H6'; clear H6' hs6)
                          go_roundg (8 - (i + 1))
                          case measure => omega
                          case rel => exact ⟨i + 1, A6, c6, mm + 1, by omega, rfl, by go_num, Lib.hid (by have := HMI.out; omega), rfl, by rw [HTM.out]; exact H6.out⟩
                        · obtain rfl : i = 8 := by omega
                          obtain rfl : mm = e2 := by rw [HMI.out, HE2.out]
                          have HF := HS
                          clear HS
                          go_wp2
                          go_roundg (Q - (q + 1))
                          case measure => omega
                          case rel => exact ⟨q + 1, mm, A9, c9, by omega, rfl, Lib.hid (by have := HE2.out; have := HE.out; omega), by go_num, rfl, HF.out⟩
                    · by_cases ht2 : t < 72
                      · obtain ⟨tn, htn⟩ : ∃ tn : Nat, t - 64 = (tn : Int) := ⟨(t - 64).toNat, by omega⟩
                        have htn8 : tn < 8 := by omega
                        have i6 : (0 : Int) ≤ t := by omega
                        have i7 : (64 : Int) ≤ t := by omega
                        have hp : 2 ^ tn < 256 := Nat.lt_of_lt_of_le (Nat.pow_lt_pow_right (by omega) htn8) (by decide)
                        have e1p := shl_small tn htn8
                        have e2p := u8_xor_nat CK (2 ^ tn) hkl hp
                        obtain ⟨a, b', CM'⟩ := HM2.out tn htn8
                        have CM := Lib.hid CM'
                        generalize CK ^^^ 2 ^ tn = X at e2p CM
                        generalize 2 ^ tn = P2 at e1p e2p hp
                        clear CM' HM0 HM1 HM2 ht0
                        go_wp2_with fail
                        refine (CM.out w5).mono ?_; rintro en w7 ⟨rfl, hb7⟩
                        have HS7 := Lib.hid (HS5.out.later hb7)
                        clear hb7 CM HS5
                        go_wp2
                        go_loopg [8, 111] 8 (fun g v8 v111 wl => ∃ (i : Nat) (A8 : Option Addr) (c8 mm : Nat), i ≤ 8 ∧ g = 8 - i ∧ v111 = .int .i64 (i : Int) ∧ Hid (mm = e + i) ∧ v8 = .slice A8 mm c8 ∧ Sep w wl [.row 5 1 (.slice A5 m c5) m (bb.flatMap bcell), .row 5 1 (.slice A8 mm c8) mm ((bb.take mm).flatMap bcell)])
                        case atStart => exact ⟨0, A8, c8, e, by omega, rfl, rfl, Lib.hid rfl, rfl, HS7.out⟩
                        case round =>
                          clear HS7
                          obtain ⟨i, A9, c9, mm, hi, rfl, rfl, HMI, rfl, hs⟩ := hrel
                          have HS := Lib.hid hs
                          clear hs
                          by_cases hlt : i < 8
                          · have i3 : (i : Int) < 8 := by omega
                            obtain ⟨x, hxi, hx8, hxm⟩ := HCH.out i hlt
                            have hmb : mm ≤ 4112 := by have := HMI.out; omega
                            obtain ⟨f, hf⟩ : ∃ f : Nat, 8 * i = f := ⟨_, rfl⟩
                            have v1 : (8 : Int) * (i : Int) = (f : Int) := by omega
                            have v2 : IntKind.u8.wrap ((V : Int) / 2 ^ f) = (x : Int) := by
                              rw [← hf, ← HVV.out]
                              exact byte_wrap ch i x HCB.out hxi
                            have v3 : f ≤ 56 := by omega
                            have HTM : Hid ((bb.take (mm + 1)).flatMap bcell = (bb.take mm).flatMap bcell ++ [.int .u8 (x : Int)]) := Lib.hid (by
                              have h9 : bb[mm]? = some x := by rw [HMI.out]; exact hxm
                              rw [List.take_add_one, h9, List.flatMap_append]
                              rfl)
                            have hnew := Lib.hid (Rd.of_own (own_new wr 5 #[.int .u8 (x : Int)] 1 1 rfl (by simp [maxLen]) (Nat.le_refl _)))
                            clear hf hxi hxm
                            go_wp2_with (at_builtin; refine wpList_append_sep (HS.out.alloc _) 1 rfl (.tmp 114) (.tmp 120) 22 rfl 5 ti (.int .u8 0) 1 1 Tryz.underlying22 hti t0 t1 t2 rfl (by omega) _ mm _ rfl rfl _ _ 1 1 _ rfl hnew.out (by simp [Value.oneCell']) (by simp only [maxLen]; omega) (by omega) ?_; intro A6 c6 w6 hc6 hs6 H6'; have H6 := Lib.hid H6'; clear H6' hs6)
                            go_roundg (8 - (i + 1))
                            case measure => omega
                            case rel => exact ⟨i + 1, A6, c6, mm + 1, by omega, rfl, by go_num, Lib.hid (by have := HMI.out; omega), rfl, by rw [HTM.out]; exact H6.out⟩
                          · obtain rfl : i = 8 := by omega
                            obtain rfl : mm = e2 := by rw [HMI.out, HE2.out]
                            have HF := HS
                            clear HS
                            go_wp2
                            go_roundg (Q - (q + 1))
                            case measure => omega
                            case rel => exact ⟨q + 1, mm, A9, c9, by omega, rfl, Lib.hid (by have := HE2.out; have := HE.out; omega), by go_num, rfl, HF.out⟩
                      · have i6 : (0 : Int) ≤ t := by omega
                        have i7 : (64 : Int) ≤ t := by omega
                        obtain ⟨a, b', CM'⟩ := HM0.out
                        have CM := Lib.hid CM'
                        clear CM' HM0 HM1 HM2 ht0
                        go_wp2_with fail
                        refine (CM.out w5).mono ?_; rintro en w7 ⟨rfl, hb7⟩
                        have HS7 := Lib.hid (HS5.out.later hb7)
                        clear hb7 CM HS5
                        go_wp2
                        go_loopg [8, 111] 8 (fun g v8 v111 wl => ∃ (i : Nat) (A8 : Option Addr) (c8 mm : Nat), i ≤ 8 ∧ g = 8 - i ∧ v111 = .int .i64 (i : Int) ∧ Hid (mm = e + i) ∧ v8 = .slice A8 mm c8 ∧ Sep w wl [.row 5 1 (.slice A5 m c5) m (bb.flatMap bcell), .row 5 1 (.slice A8 mm c8) mm ((bb.take mm).flatMap bcell)])
                        case atStart => exact ⟨0, A8, c8, e, by omega, rfl, rfl, Lib.hid rfl, rfl, HS7.out⟩
                        case round =>
                          clear HS7
                          obtain ⟨i, A9, c9, mm, hi, rfl, rfl, HMI, rfl, hs⟩ := hrel
                          have HS := Lib.hid hs
                          clear hs
                          by_cases hlt : i < 8
                          · have i3 : (i : Int) < 8 := by omega
                            obtain ⟨x, hxi, hx8, hxm⟩ := HCH.out i hlt
                            have hmb : mm ≤ 4112 := by have := HMI.out; omega
                            obtain ⟨f, hf⟩ : ∃ f : Nat, 8 * i = f := ⟨_, rfl⟩
                            have v1 : (8 : Int) * (i : Int) = (f : Int) := by omega
                            have v2 : IntKind.u8.wrap ((V : Int) / 2 ^ f) = (x : Int) := by
                              rw [← hf, ← HVV.out]
                              exact byte_wrap ch i x HCB.out hxi
                            have v3 : f ≤ 56 := by omega
                            have HTM : Hid ((bb.take (mm + 1)).flatMap bcell = (bb.take mm).flatMap bcell ++ [.int .u8 (x : Int)]) := Lib.hid (by
                              have h9 : bb[mm]? = some x := by rw [HMI.out]; exact hxm
                              rw [List.take_add_one, h9, List.flatMap_append]
                              rfl)
                            have hnew := Lib.hid (Rd.of_own (own_new wr 5 #[.int .u8 (x : Int)] 1 1 rfl (by simp [maxLen]) (Nat.le_refl _)))
                            clear hf hxi hxm
                            go_wp2_with (at_builtin; refine wpList_append_sep (HS.out.alloc _) 1 rfl (.tmp 114) (.tmp 120) 22 rfl 5 ti (.int .u8 0) 1 1 Tryz.underlying22 hti t0 t1 t2 rfl (by omega) _ mm _ rfl rfl _ _ 1 1 _ rfl hnew.out (by simp [Value.oneCell']) (by simp only [maxLen]; omega) (by omega) ?_; intro A6 c6 w6 hc6 hs6 H6'; have H6 := Lib.hid H6'; clear H6' hs6)
                            go_roundg (8 - (i + 1))
                            case measure => omega
                            case rel => exact ⟨i + 1, A6, c6, mm + 1, by omega, rfl, by go_num, Lib.hid (by have := HMI.out; omega), rfl, by rw [HTM.out]; exact H6.out⟩
                          · obtain rfl : i = 8 := by omega
                            obtain rfl : mm = e2 := by rw [HMI.out, HE2.out]
                            have HF := HS
                            clear HS
                            go_wp2
                            go_roundg (Q - (q + 1))
                            case measure => omega
                            case rel => exact ⟨q + 1, mm, A9, c9, by omega, rfl, Lib.hid (by have := HE2.out; have := HE.out; omega), by go_num, rfl, HF.out⟩
                · have i4 : ¬ (q : Int) < (nb : Int) := by omega
                  obtain ⟨a, b', CM'⟩ := HM0.out
                  have CM := Lib.hid CM'
                  clear CM' HM0 HM1 HM2
                  go_wp2_with fail
                  refine (CM.out w5).mono ?_; rintro en w7 ⟨rfl, hb7⟩
                  have HS7 := Lib.hid (HS5.out.later hb7)
                  clear hb7 CM HS5
                  go_wp2
                  go_loopg [8, 111] 8 (fun g v8 v111 wl => ∃ (i : Nat) (A8 : Option Addr) (c8 mm : Nat), i ≤ 8 ∧ g = 8 - i ∧ v111 = .int .i64 (i : Int) ∧ Hid (mm = e + i) ∧ v8 = .slice A8 mm c8 ∧ Sep w wl [.row 5 1 (.slice A5 m c5) m (bb.flatMap bcell), .row 5 1 (.slice A8 mm c8) mm ((bb.take mm).flatMap bcell)])
                  case atStart => exact ⟨0, A8, c8, e, by omega, rfl, rfl, Lib.hid rfl, rfl, HS7.out⟩
                  case round =>
                    clear HS7
                    obtain ⟨i, A9, c9, mm, hi, rfl, rfl, HMI, rfl, hs⟩ := hrel
                    have HS := Lib.hid hs
                    clear hs
                    by_cases hlt : i < 8
                    · have i3 : (i : Int) < 8 := by omega
                      obtain ⟨x, hxi, hx8, hxm⟩ := HCH.out i hlt
                      have hmb : mm ≤ 4112 := by have := HMI.out; omega
                      obtain ⟨f, hf⟩ : ∃ f : Nat, 8 * i = f := ⟨_, rfl⟩
                      have v1 : (8 : Int) * (i : Int) = (f : Int) := by omega
                      have v2 : IntKind.u8.wrap ((V : Int) / 2 ^ f) = (x : Int) := by
                        rw [← hf, ← HVV.out]
                        exact byte_wrap ch i x HCB.out hxi
                      have v3 : f ≤ 56 := by omega
                      have HTM : Hid ((bb.take (mm + 1)).flatMap bcell = (bb.take mm).flatMap bcell ++ [.int .u8 (x : Int)]) := Lib.hid (by
                        have h9 : bb[mm]? = some x := by rw [HMI.out]; exact hxm
                        rw [List.take_add_one, h9, List.flatMap_append]
                        rfl)
                      have hnew := Lib.hid (Rd.of_own (own_new wr 5 #[.int .u8 (x : Int)] 1 1 rfl (by simp [maxLen]) (Nat.le_refl _)))
                      clear hf hxi hxm
                      go_wp2_with (at_builtin; refine wpList_append_sep (HS.out.alloc _) 1 rfl (.tmp 114) (.tmp 120) 22 rfl 5 ti (.int .u8 0) 1 1 Tryz.underlying22 hti t0 t1 t2 rfl (by omega) _ mm _ rfl rfl _ _ 1 1 _ rfl hnew.out (by simp [Value.oneCell']) (by simp only [maxLen]; omega) (by omega) ?_; intro A6 c6 w6 hc6 hs6 H6'; have H6 := Lib.hid H6'; clear H6' hs6)
                      go_roundg (8 - (i + 1))
                      case measure => omega
                      case rel => exact ⟨i + 1, A6, c6, mm + 1, by omega, rfl, by go_num, Lib.hid (by have := HMI.out; omega), rfl, by rw [HTM.out]; exact H6.out⟩
                    · obtain rfl : i = 8 := by omega
                      obtain rfl : mm = e2 := by rw [HMI.out, HE2.out]
                      have HF := HS
                      clear HS
                      go_wp2
                      go_roundg (Q - (q + 1))
                      case measure => omega
                      case rel => exact ⟨q + 1, mm, A9, c9, by omega, rfl, Lib.hid (by have := HE2.out; have := HE.out; omega), by go_num, rfl, HF.out⟩
          · obtain rfl : q = Q := by omega
            obtain rfl : e = m := by rw [HE.out, HQ1.out]
            have hTK : bb.take e = bb := List.take_of_length_le (by rw [HBBL.out]; exact Nat.le_refl _)
            have i1 : ¬ (e : Int) < (e : Int) := by omega
            have hec8 : e ≤ c8 := by
              obtain ⟨A', c', e', h⟩ := (HS.out.rowHas 1 rfl).slice
              cases e'
              exact h
            have hup : ∀ W, (Instr.slice 22 (.slice A8 e c8) none (some (.int .i64 (n2 : Int))) none).run Tryz.prog W = .ok (.slice A8 n2 c8) W := fun W => upto_run Tryz.underlying22 (size_of_info hti t1) A8 e c8 n2 (by omega) W
            have hrd := rd_upto (HS.out.rd 1 rfl) (k := n2) hQ2
            have hcl : ((bb.take e).flatMap bcell).take (n2 * 1) = B.flatMap bcell := by rw [hTK, flat_take bcell_len, HBT.out]
            rw [hcl] at hrd
            have cO2 := Lib.hid (cO.out A8 c8 wr hrd (by omega))
            have HBW := Lib.hid HS.out.below
            clear hTK hrd hcl HS cO
            go_wp2_with fail
            refine cO2.out.mono ?_; rintro en w5 ⟨A3, c3, rfl, hb5, hr3⟩
            have HB5 := Lib.hid (HBW.out.trans (hb5.mono HBW.out.size))
            have s1 := run_str_rd (c := c3) 22 9 5 Tryz.underlying22 Tryz.underlying5 Tryz.underlying9 hr3 HLS.out
            have s2 := run_str_rd (c := c) 22 9 5 Tryz.underlying22 Tryz.underlying5 Tryz.underlying9 (HR.out.later HB5.out) HLS.out
            have z1 : ((strOf l).toList == (strOf l).toList) = true := by simp
            generalize strOf l = T at s1 s2 z1
            clear hb5 hr3 cO2 HBW
            go_wp2
            go_ret
            exact Ret.mk rfl HB5.out
end Tm
end Go.Proofs.YtgfldhdmdeeknaaGreatDoor
