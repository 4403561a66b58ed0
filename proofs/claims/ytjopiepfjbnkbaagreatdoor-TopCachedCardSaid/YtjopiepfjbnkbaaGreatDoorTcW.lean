/-
  Walk of the law TopCached. Conditions: none beyond each theorem's own premises.
-/
import Derived.Test.YtjopiepfjbnkbaaGreatDoorTcM
import Derived.Test.YtjopiepfjbnkbaaGreatDoorCaWb
import Derived.Test.YtjopiepfjbnkbaaGreatDoorBnTa
namespace Go.Proofs.YtjopiepfjbnkbaaGreatDoor
open Go.RowKit Go.Shelf Go.Sort
set_option linter.unusedVariables false
namespace Tc
open _root_.Go.Proofs.YtjopiepfjbnkbaaGreatDoor.Bn

theorem cop_info : (Tryz.prog.info? 33).map (fun i => (i.zero, i.size, i.bytes)) = some (some (.agg #[.int .i64 0, .int .i64 0, .int .i64 0]), 3, 24) := by kernel_rfl
theorem fop_info : (Tryz.prog.info? 36).map (fun i => (i.zero, i.size, i.bytes)) = some (some (.agg #[.int .i64 0, .int .i64 0, .int .i64 0]), 3, 24) := by kernel_rfl
set_option maxHeartbeats 800000 in
theorem cclone_any (A : Option Addr) (n c : Nat) (xs : List Value) (w : World) (hr : Rd w w.heap.size 3 A n xs) (h1 : ∀ u ∈ xs, u.oneCell' = true) (hn : n * 24 ≤ 140737488355328) (hm : n ≤ 9223372036854775807) :
    Calls Tryz.prog 7 #[.slice A n c] w (SliceRet w 33 3 n xs) := by
  obtain ⟨ti, hti, t0, t1, t2⟩ := info_parts cop_info
  have HR := Lib.hid hr
  have H1 := Lib.hid h1
  have hnil : ∀ w, (binOp .eql 22 (.slice A n c) (.slice none 0 0)).run Tryz.prog w = .ok (.bool A.isNone) w := fun w => Lib.run_eql_slice_nil w 22 33 A n c 0 0 Tryz.underlying22
  clear hr h1
  cases A with
  | none =>
    obtain rfl : n = 0 := by
      rcases Nat.eq_zero_or_pos n with h | h
      · exact h
      · obtain ⟨b, off, hA, _⟩ := HR.out.2 h; cases hA
    obtain rfl : xs = [] := List.eq_nil_of_length_eq_zero (by have := HR.out.1; omega)
    have hnil' : ∀ w, (binOp .eql 22 (.slice none 0 c) (.slice none 0 0)).run Tryz.prog w = .ok (.bool true) w := hnil
    clear hnil
    go_enter Tryz.func7, Tryz.ntmps7
    go_wp2
    go_ret
    exact ⟨none, 0, Nat.le_refl _, rfl, (Sep.nil_ w).nilRow 33 3 none⟩
  | some a =>
    have hnil' : ∀ w, (binOp .eql 22 (.slice (some a) n c) (.slice none 0 0)).run Tryz.prog w = .ok (.bool false) w := hnil
    clear hnil
    have HS0 : Hid (Sep w (w.alloc (.cells #[] 33)) [.row 33 3 (.slice (some ⟨w.heap.size, 0, none⟩) 0 0) 0 []]) := Lib.hid (((Sep.nil_ w).alloc _).nilRow 33 3 _)
    have HRs := Lib.hid (HR.out.later HS0.out.below)
    go_enter Tryz.func7, Tryz.ntmps7
    go_wp2_with (at_builtin; refine wpList_append_sep HS0.out 0 rfl (.tmp 5) (.tmp 6) 22 rfl 33 ti (.agg #[.int .i64 0, .int .i64 0, .int .i64 0]) 3 24 Tryz.underlying22 hti t0 t1 t2 rfl (by omega) _ 0 _ rfl rfl _ _ n c _ rfl HRs.out H1.out (by simp only [maxLen]; omega) (by omega) ?_; intro A6 c6 w3 hc6 hs3 HA)
    go_ret
    simp only [Nat.zero_add, List.nil_append] at HA hc6 ⊢
    exact ⟨A6, c6, hc6, rfl, HA⟩
def nc (n : Nat) : List Value := [.int .i64 (n : Int)]
theorem nc_len : ∀ n, (nc n).length = 1 := fun _ => rfl
theorem cells_one (l : List Ca.O) : ∀ u ∈ l.flatMap Ca.O.cells, u.oneCell' = true := by
  intro u hu
  rw [List.mem_flatMap] at hu
  obtain ⟨x, _, hu⟩ := hu
  simp only [Ca.O.cells, List.mem_cons, List.not_mem_nil, or_false] at hu
  rcases hu with rfl | rfl | rfl <;> rfl
abbrev fR (A : Option Addr) (n c : Nat) (l : List Ft.O) : It := .row 36 3 (.slice A n c) n (l.flatMap Ft.O.cells)
abbrev nR (A : Option Addr) (n c : Nat) (l : List Nat) : It := .row 3 1 (.slice A n c) n (l.flatMap nc)
abbrev bxI (g : Nat) (A : Option Addr) (m c f s : Nat) (st : List Int) : It := .cells g 27 (Ca.cdc (.slice A m c) f s st)

set_option maxRecDepth 100000 in
set_option maxHeartbeats 12800000 in
theorem topCached_walk (sz : Int) (Ad : Option Addr) (n c : Nat) (ops : List Ca.O) (w : World) (hr : Rd w w.heap.size 3 Ad n (ops.flatMap Ca.O.cells)) (hl : ops.length = n) (hn : n ≤ 9223372036854775807) (hg : Gl w) :
    Calls Tryz.prog 3 #[.int .i64 sz, .slice Ad n c] w (Ret w (.bool true)) := by
  obtain ⟨ti, hti, t0, t1, t2⟩ := info_parts cop_info
  obtain ⟨tj, htj, j0, j1, j2⟩ := info_parts fop_info
  obtain ⟨tk, htk, k0, k1, k2⟩ := info_parts Ft.int_info
  have cA := Lib.hid (So.alive_any w hg)
  by_cases hbig : 384 < n
  · have i0 : (384 : Int) < (n : Int) := by omega
    clear hr hg
    go_enter Tryz.func3, Tryz.ntmps3
    go_wp2_with fail
    refine cA.out.mono ?_; rintro en w1 ⟨rfl, hb1⟩
    have B1 := Lib.hid hb1
    clear hb1 cA
    go_wp2
    go_ret
    exact Ret.mk rfl B1.out
  · have i0 : ¬ (384 : Int) < (n : Int) := by omega
    have hn3 : n ≤ 384 := by omega
    have cC := Lib.hid (fun W (hW : Below w.heap.size w W) => cclone_any Ad n c _ W (hr.later hW) (cells_one ops) (by omega) (by omega))
    have hl1 : (ops ++ [(⟨3, 0, 0⟩ : Ca.O)]).length = n + 1 := by rw [List.length_append, hl]; rfl
    have hfl : (ops ++ [(⟨3, 0, 0⟩ : Ca.O)]).flatMap Ca.O.cells = ops.flatMap Ca.O.cells ++ [.int .i64 3, .int .i64 0, .int .i64 0] := by rw [List.flatMap_append]; rfl
    by_cases hgood : 1 ≤ sz ∧ sz ≤ 16 ∧ ∀ o ∈ ops, Ca.Good o
    · obtain ⟨hz1, hz2, hgd⟩ := hgood
      obtain ⟨s, rfl⟩ : ∃ s : Nat, sz = (s : Int) := ⟨sz.toNat, by omega⟩
      have hgd' : ∀ o ∈ ops ++ [(⟨3, 0, 0⟩ : Ca.O)], Ca.Good o := fun o ho => by
        rcases List.mem_append.1 ho with h | h
        · exact hgd o h
        · rw [List.mem_singleton.1 h]; exact ⟨by decide, by decide, by decide, by decide⟩
      obtain ⟨cf, hp⟩ := Ca.plays_ex (size := s) (by omega) (ops ++ [⟨3, 0, 0⟩]) Ca.C0 (Ca.ok0 s) hgd'
      obtain ⟨as_, hfp, hal, hrl, hsl, hat, hst⟩ := law (size := s) (by omega) hgd hp (Ca.ok0 s)
      have cP := Lib.hid (fun A6 c6 W (h : Rd W W.heap.size 3 A6 (n + 1) (ops.flatMap Ca.O.cells ++ [.int .i64 3, .int .i64 0, .int .i64 0])) => Ca.play_ok s A6 (n + 1) c6 (ops ++ [⟨3, 0, 0⟩]) cf W (by rw [hfl]; exact h) hl1 (by omega) (by omega) (by omega) hgd' hp)
      have hfle := fops_le ops
      have hrle := rp_le ops 0
      obtain ⟨m, hm⟩ : ∃ m, (ops.flatMap fops).length = m := ⟨_, rfl⟩
      obtain ⟨nr, hnr⟩ : ∃ nr, (rp 0 ops).length = nr := ⟨_, rfl⟩
      obtain ⟨N, hN⟩ : ∃ N, m + 16 = N := ⟨_, rfl⟩
      have cF := Lib.hid (fun A7 c7 W (h : Rd W W.heap.size 3 A7 N ((ops.flatMap fops ++ rds (List.range 16)).flatMap Ft.O.cells)) => Ft.play_any A7 N c7 (ops.flatMap fops ++ rds (List.range 16)) as_ W h (by rw [List.length_append, hm, rds, List.length_map, List.length_range, hN]) (by omega) hfp (fun o ho => by
        rcases List.mem_append.1 ho with h1 | h1
        · obtain ⟨x, hx, ho⟩ := List.mem_flatMap.1 h1
          have h2 := hgd x hx
          have : o.n = x.page := by
            unfold fops at ho
            split at ho
            · rw [List.mem_singleton.1 ho]
            · split at ho
              · rw [List.mem_singleton.1 ho]
              · cases ho
          rw [this]
          exact Ft.wf_small h2.2.2.1 (by have := h2.2.2.2; omega)
        · obtain ⟨x, hx, rfl⟩ := List.mem_map.1 h1
          exact Ft.wf_small (by show (0 : Int) ≤ (x : Int); omega) (by have := List.mem_range.1 hx; show (x : Int) < 100; omega)))
      have HSTL := Lib.hid hsl
      have HRL : Hid (cf.rd.length = nr) := Lib.hid (hrl.trans hnr)
      have HAL : Hid (as_.length = N) := Lib.hid (by rw [hal, hm, hN])
      have HAT := Lib.hid hat
      have HST := Lib.hid hst
      have HM := Lib.hid hm
      have HNR := Lib.hid hnr
      have HN := Lib.hid hN
      have HGD := Lib.hid hgd
      have HR := Lib.hid hr
      have HL := Lib.hid hl
      rw [hl] at hfle hrle
      have hm3 : m ≤ 384 := by omega
      have hnr3 : nr ≤ 384 := by omega
      have hN4 : N ≤ 400 := by omega
      obtain ⟨rd, hrd⟩ : ∃ rd, cf.rd = rd := ⟨_, rfl⟩
      obtain ⟨st, hst'⟩ : ∃ st, cf.st = st := ⟨_, rfl⟩
      unfold Ca.CRet at cP
      rw [hrd, hst'] at cP
      rw [hrd] at HRL HAT
      rw [hst'] at HST HSTL
      generalize cf.f = f at cP
      generalize cf.s = sto at cP
      clear hr hg hl hl1 hfl hgd hgd' hp hfp hal hrl hsl hat hst hfle hrle hm hnr hN hz1 hz2 hbig hn hrd hst'
      have hsz : ∀ A c, Hid ((Tryz.prog.info? 27).map (·.size) = some (Ca.cdc (.slice A rd.length c) f sto st).toArray.size) := fun A c => Lib.hid (by rw [List.size_toArray, Ca.cdc_len HSTL.out]; exact Ca.info64)
      have hzz : ∀ A c, Hid ((Ca.cdc (.slice A rd.length c) f sto st).toArray.size = Ca.Z0.toArray.size) := fun A c => Lib.hid (by rw [List.size_toArray, List.size_toArray, Ca.cdc_len HSTL.out]; rfl)
      have HSZ := Lib.hid hsz
      have HZZ := Lib.hid hzz
      clear hsz hzz
      go_enter Tryz.func3, Tryz.ntmps3
      go_wp2_with fail
      refine cA.out.mono ?_; rintro en w1 ⟨rfl, hb1⟩
      have B1 := Lib.hid hb1
      clear hb1 cA
      go_wp2_with fail
      refine (cC.out w1 B1.out).mono ?_; rintro en w2 ⟨A1, c1, hc1, rfl, hs2⟩
      have H2 := Lib.hid (((Sep.nil_ w).later B1.out).join hs2)
      have hnew := Lib.hid (Rd.of_own (own_new w2 33 #[.int .i64 3, .int .i64 0, .int .i64 0] 3 1 rfl (by simp [maxLen]) (Nat.le_refl _)))
      clear hs2 cC B1
      go_wp2_with (at_builtin; refine wpList_append_sep (H2.out.alloc _) 0 rfl (.tmp 27) (.tmp 29) 22 rfl 33 ti (.agg #[.int .i64 0, .int .i64 0, .int .i64 0]) 3 24 Tryz.underlying22 hti t0 t1 t2 rfl (by omega) _ n _ rfl rfl _ _ 1 1 _ rfl hnew.out (by simp [Value.oneCell']) (by simp only [maxLen]; omega) (by omega) ?_; intro A6 c6 w6 hc6 hs6 H6'; have H6 := Lib.hid H6'; clear H6' hs6)
      clear hnew H2
      have hrd6 := H6.out.rd 0 rfl
      refine (cP.out A6 c6 w6 hrd6).mono ?_; rintro en w3 ⟨Ar, cr, rfl, hs3⟩
      have H3 := Lib.hid (((Sep.nil_ w).later H6.out.below).join hs3)
      have F4 : Hid (Blk (w3.alloc (.cells Ca.Z0.toArray 27)) w3.heap.size 27 Ca.Z0) := Lib.hid (Blk.new w3 _ _)
      have S3 : Hid (Sep w ((w3.alloc (.cells #[.slice none 0 0, .int .i64 0, .int .i64 0, .int .i64 0, .int .i64 0, .int .i64 0, .int .i64 0, .int .i64 0, .int .i64 0, .int .i64 0, .int .i64 0, .int .i64 0, .int .i64 0, .int .i64 0, .int .i64 0, .int .i64 0, .int .i64 0, .int .i64 0, .int .i64 0] 27)).setRow w3.heap.size (Ca.cdc (.slice Ar rd.length cr) f sto st).toArray) [Ca.rdI Ar rd.length cr rd, bxI w3.heap.size Ar rd.length cr f sto st]) := Lib.hid (H3.out.boxed 27 Ca.Z0 (Ca.cdc (.slice Ar rd.length cr) f sto st))
      clear hs3 cP hrd6 H6 H3
      go_upto_region 6 with (refine wpList_store_row rfl 27 (.tmp 5) (.tmp 32) rfl w3.heap.size (Ca.cdc (.slice Ar rd.length cr) f sto st).toArray rfl rfl 27 Ca.Z0.toArray F4.out (HSZ.out _ _).out (HZZ.out _ _).out.symm Ca.cdc_one ?_)
      generalize (w3.alloc (.cells #[.slice none 0 0, .int .i64 0, .int .i64 0, .int .i64 0, .int .i64 0, .int .i64 0, .int .i64 0, .int .i64 0, .int .i64 0, .int .i64 0, .int .i64 0, .int .i64 0, .int .i64 0, .int .i64 0, .int .i64 0, .int .i64 0, .int .i64 0, .int .i64 0, .int .i64 0] 27)).setRow w3.heap.size (Ca.cdc (.slice Ar rd.length cr) f sto st).toArray = wa at S3 ⊢
      clear F4
      generalize w3.heap.size = g5 at S3 ⊢
      rw [HRL.out] at S3
      have H4 := Lib.hid ((S3.out.nilRow 36 3 none).nilRow 3 1 none)
      clear S3
      go_wp2
      go_loopg [7, 8, 42] n (fun g v7 v8 i wr => ∃ (k na nb : Nat) (A7 : Option Addr) (c7 : Nat) (A8 : Option Addr) (c8 : Nat), k ≤ n ∧ g = n - k ∧ i = .int .i64 (k : Int) ∧ Hid (((ops.take k).flatMap fops).length = na) ∧ Hid ((rp 0 (ops.take k)).length = nb) ∧ na ≤ k ∧ nb ≤ k ∧ v7 = .slice A7 na c7 ∧ v8 = .slice A8 nb c8 ∧
        Sep w wr [Ca.rdI Ar nr cr rd, bxI g5 Ar nr cr f sto st, fR A7 na c7 ((ops.take k).flatMap fops), nR A8 nb c8 (rp 0 (ops.take k))])
      case atStart => exact ⟨0, 0, 0, none, 0, none, 0, Nat.zero_le _, rfl, rfl, Lib.hid rfl, Lib.hid rfl, Nat.le_refl _, Nat.le_refl _, rfl, rfl, H4.out⟩
      case round =>
        clear H4
        obtain ⟨k, na, nb, A7, c7, A8, c8, hk, rfl, rfl, HNA, HNB, hna, hnb, rfl, rfl, hs⟩ := hrel
        have HS := Lib.hid hs
        clear hs
        by_cases hlt : k < n
        · have i1 : (0 : Int) ≤ (k : Int) := by omega
          have i2 : (k : Int) < (n : Int) := by omega
          obtain ⟨⟨ki, pa, da⟩, ho⟩ : ∃ o, ops[k]? = some o := ⟨_, List.getElem?_eq_getElem (by rw [HL.out]; exact hlt)⟩
          obtain ⟨b, off, rfl, hb, hc⟩ := HR.out.at_ Ca.O.len (by omega)
          have hbel : Below w.heap.size w wr := HS.out.below
          have q0 : wr.cell? ⟨b, off + k * 3, none⟩ = some (.int .i64 ki) := (hbel.cell (p := ⟨b, off + k * 3, none⟩) hb).trans (hc k 0 _ _ ho rfl)
          have q1 : wr.cell? ⟨b, off + k * 3 + 1, none⟩ = some (.int .i64 pa) := (hbel.cell (p := ⟨b, off + k * 3 + 1, none⟩) hb).trans (hc k 1 _ _ ho rfl)
          have q2 : wr.cell? ⟨b, off + k * 3 + 2, none⟩ = some (.int .i64 da) := (hbel.cell (p := ⟨b, off + k * 3 + 2, none⟩) hb).trans (hc k 2 _ _ ho rfl)
          have hg := HGD.out _ (List.mem_of_getElem? ho)
          have HTK : Hid (ops.take (k + 1) = ops.take k ++ [⟨ki, pa, da⟩]) := Lib.hid (by rw [List.take_add_one, ho]; rfl)
          have HS2 : Hid (Sep w (wr.alloc (.cells #[.int .i64 ki, .int .i64 pa, .int .i64 da] 33)) [Ca.rdI Ar nr cr rd, bxI g5 Ar nr cr f sto st, fR A7 na c7 ((ops.take k).flatMap fops), nR A8 nb c8 (rp 0 (ops.take k)), .cells wr.heap.size 33 [.int .i64 ki, .int .i64 pa, .int .i64 da]]) := Lib.hid (HS.out.new 33 [.int .i64 ki, .int .i64 pa, .int .i64 da])
          obtain ⟨g1, g2, _, _⟩ := hg
          have hki : ki = 1 ∨ ki = 2 ∨ ki = 3 := by simp only at g1 g2; omega
          clear hc hb ho hbel HS g1 g2
          go_upto_region 13 with (fail)
          clear q0 q1 q2
          generalize wr.alloc (.cells #[.int .i64 ki, .int .i64 pa, .int .i64 da] 33) = wo at HS2 ⊢
          generalize wr.heap.size = gx at HS2 ⊢
          have p0 := HS2.out.cell 4 rfl (k := 0) rfl
          have p1 := HS2.out.cell 4 rfl (k := 1) rfl
          have p2 := HS2.out.cell 4 rfl (k := 2) rfl
          rcases hki with rfl | rfl | rfl
          · have HF : Hid ((ops.take (k + 1)).flatMap fops = (ops.take k).flatMap fops ++ [⟨2, pa, 0⟩]) := Lib.hid (by rw [HTK.out, List.flatMap_append]; rfl)
            have HP : Hid (rp 0 (ops.take (k + 1)) = rp 0 (ops.take k) ++ [na]) := Lib.hid (by rw [HTK.out, rp_snoc, HNA.out, Nat.zero_add]; rfl)
            have hnew := Lib.hid (Rd.of_own (own_new wo 3 #[.int .i64 (na : Int)] 1 1 rfl (by simp [maxLen]) (Nat.le_refl _)))
            go_upto_region 16 with (at_builtin; refine wpList_append_sep (HS2.out.alloc _) 3 rfl (.tmp 50) (.tmp 53) 24 rfl 3 tk (.int .i64 0) 1 8 Tryz.underlying24 htk k0 k1 k2 rfl (by omega) _ nb _ rfl rfl _ _ 1 1 _ rfl hnew.out (by simp [Value.oneCell']) (by simp only [maxLen]; omega) (by omega) ?_; intro A6' c6' w6' hc6' hs6' H6''; have H6 := Lib.hid H6''; clear H6'' hs6')
            clear hnew p0 p1 p2 HS2
            have p1 := H6.out.cell 4 rfl (k := 1) rfl
            have hnew := Lib.hid (Rd.of_own (own_new w6' 36 #[.int .i64 2, .int .i64 pa, .int .i64 0] 3 1 rfl (by simp [maxLen]) (Nat.le_refl _)))
            go_wp2_with (at_builtin; refine wpList_append_sep (H6.out.alloc _) 2 rfl (.tmp 55) (.tmp 59) 34 rfl 36 tj (.agg #[.int .i64 0, .int .i64 0, .int .i64 0]) 3 24 Tryz.underlying34 htj j0 j1 j2 rfl (by omega) _ na _ rfl rfl _ _ 1 1 _ rfl hnew.out (by simp [Value.oneCell']) (by simp only [maxLen]; omega) (by omega) ?_; intro A9 c9 w9 hc9 hs9 H9'; have H9 := Lib.hid H9'; clear H9' hs9)
            go_roundg (n - (k + 1))
            case measure => omega
            case rel => exact ⟨k + 1, na + 1, nb + 1, A9, c9, A6', c6', by omega, rfl, by go_num, Lib.hid (by rw [HF.out, List.length_append, HNA.out]; rfl), Lib.hid (by rw [HP.out, List.length_append, HNB.out]; rfl), by omega, by omega, rfl, rfl, by
              have h := H9.out.pick [0, 1, 2, 3] (by decide) (by simp)
              unfold fR nR
              rw [HF.out, HP.out, List.flatMap_append, List.flatMap_append]
              exact h⟩
          · have HF : Hid ((ops.take (k + 1)).flatMap fops = (ops.take k).flatMap fops ++ [⟨1, pa, da⟩]) := Lib.hid (by rw [HTK.out, List.flatMap_append]; rfl)
            have HP : Hid (rp 0 (ops.take (k + 1)) = rp 0 (ops.take k)) := Lib.hid (by rw [HTK.out, rp_snoc, if_neg (by show ¬ (2 : Int) = 1; decide), List.append_nil])
            have hnew := Lib.hid (Rd.of_own (own_new wo 36 #[.int .i64 1, .int .i64 pa, .int .i64 da] 3 1 rfl (by simp [maxLen]) (Nat.le_refl _)))
            go_wp2_with (at_builtin; refine wpList_append_sep (HS2.out.alloc _) 2 rfl (.tmp 63) (.tmp 69) 34 rfl 36 tj (.agg #[.int .i64 0, .int .i64 0, .int .i64 0]) 3 24 Tryz.underlying34 htj j0 j1 j2 rfl (by omega) _ na _ rfl rfl _ _ 1 1 _ rfl hnew.out (by simp [Value.oneCell']) (by simp only [maxLen]; omega) (by omega) ?_; intro A9 c9 w9 hc9 hs9 H9'; have H9 := Lib.hid H9'; clear H9' hs9)
            go_roundg (n - (k + 1))
            case measure => omega
            case rel => exact ⟨k + 1, na + 1, nb, A9, c9, A8, c8, by omega, rfl, by go_num, Lib.hid (by rw [HF.out, List.length_append, HNA.out]; rfl), Lib.hid (by rw [HP.out, HNB.out]), by omega, by omega, rfl, rfl, by
              have h := H9.out.pick [0, 1, 2, 3] (by decide) (by simp)
              unfold fR
              rw [HF.out, HP.out, List.flatMap_append]
              exact h⟩
          · have HF : Hid ((ops.take (k + 1)).flatMap fops = (ops.take k).flatMap fops) := Lib.hid (by rw [HTK.out, List.flatMap_append]; simp [fops])
            have HP : Hid (rp 0 (ops.take (k + 1)) = rp 0 (ops.take k)) := Lib.hid (by rw [HTK.out, rp_snoc, if_neg (by show ¬ (3 : Int) = 1; decide), List.append_nil])
            go_wp2
            go_roundg (n - (k + 1))
            case measure => omega
            case rel => exact ⟨k + 1, na, nb, A7, c7, A8, c8, by omega, rfl, by go_num, Lib.hid (by rw [HF.out, HNA.out]), Lib.hid (by rw [HP.out, HNB.out]), by omega, by omega, rfl, rfl, by
              have h := HS2.out.pick [0, 1, 2, 3] (by decide) (by simp)
              rw [HF.out, HP.out]
              exact h⟩
        · obtain rfl : k = n := by omega
          have htk2 : ops.take k = ops := List.take_of_length_le (by rw [HL.out]; exact Nat.le_refl _)
          rw [htk2] at HNA HNB HS
          obtain rfl : na = m := by rw [← HNA.out, HM.out]
          obtain rfl : nb = nr := by rw [← HNB.out, HNR.out]
          have H5 := HS
          clear htk2 HS hlt
          go_wp2
          generalize wr = wb at H5 ⊢
          go_loopg [7, 74] 16 (fun g v7 i wr => ∃ (p q : Nat) (A7 : Option Addr) (c7 : Nat), p ≤ 16 ∧ g = 16 - p ∧ i = .int .i64 (p : Int) ∧ Hid (q = na + p) ∧ v7 = .slice A7 q c7 ∧ Sep w wr [Ca.rdI Ar nb cr rd, bxI g5 Ar nb cr f sto st, fR A7 q c7 (ops.flatMap fops ++ rds (List.range p)), nR A8 nb c8 (rp 0 ops)])
          case atStart => exact ⟨0, na, A7, c7, by omega, rfl, rfl, Lib.hid rfl, rfl, by
            have e : ops.flatMap fops ++ rds (List.range 0) = ops.flatMap fops := by simp [rds]
            rw [e]
            exact H5.out⟩
          case round =>
            clear H5
            obtain ⟨p, q, A7, c7, hp, rfl, rfl, HQ, rfl, hs⟩ := hrel
            have hq4 : q ≤ 400 := by have := HQ.out; omega
            have HS := Lib.hid hs
            clear hs
            by_cases hlt : p < 16
            · have i1 : (p : Int) < 16 := by omega
              have HF : Hid (ops.flatMap fops ++ rds (List.range (p + 1)) = (ops.flatMap fops ++ rds (List.range p)) ++ [⟨2, (p : Int), 0⟩]) := Lib.hid (by
                unfold rds
                rw [List.range_succ, List.map_append, List.append_assoc]
                rfl)
              have hnew := Lib.hid (Rd.of_own (own_new wr 36 #[.int .i64 2, .int .i64 (p : Int), .int .i64 0] 3 1 rfl (by simp [maxLen]) (Nat.le_refl _)))
              go_wp2_with (at_builtin; refine wpList_append_sep (HS.out.alloc _) 2 rfl (.tmp 77) (.tmp 80) 34 rfl 36 tj (.agg #[.int .i64 0, .int .i64 0, .int .i64 0]) 3 24 Tryz.underlying34 htj j0 j1 j2 rfl (by omega) _ q _ rfl rfl _ _ 1 1 _ rfl hnew.out (by simp [Value.oneCell']) (by simp only [maxLen]; omega) (by omega) ?_; intro A9 c9 w9 hc9 hs9 H9'; have H9 := Lib.hid H9'; clear H9' hs9)
              go_roundg (16 - (p + 1))
              case measure => omega
              case rel => exact ⟨p + 1, q + 1, A9, c9, by omega, rfl, by go_num, Lib.hid (by have := HQ.out; omega), rfl, by
                have h := H9.out
                unfold fR
                rw [HF.out, List.flatMap_append]
                exact h⟩
            · obtain rfl : p = 16 := by omega
              obtain rfl : q = N := by rw [HQ.out, HN.out]
              have cF2 := Lib.hid (cF.out A7 c7 wr (HS.out.rd 2 rfl))
              clear cF hlt
              go_wp2_with fail
              refine cF2.out.mono ?_; rintro en w7 ⟨B1, d1, B2, d2, rfl, hs7⟩
              have H7 := Lib.hid ((HS.out.join hs7).pick [0, 1, 3, 4] (by decide) (by simp))
              clear cF2 HS hs7
              have e0 := H7.out.cell 1 rfl (k := 0) rfl
              go_wp2
              clear e0
              go_loopg [108] nb (fun g i wl => ∃ k : Nat, k ≤ nb ∧ g = nb - k ∧ i = .int .i64 (k : Int) ∧ Below w7.heap.size w7 wl)
              case atStart => exact ⟨0, Nat.zero_le _, rfl, rfl, Below.refl _ _⟩
              case round =>
                obtain ⟨k, hk, rfl, rfl, hB⟩ := hrel
                have HB := Lib.hid hB
                clear hB
                have H8 := Lib.hid (H7.out.later HB.out)
                by_cases hlt : k < nb
                · have i1 : (0 : Int) ≤ (k : Int) := by omega
                  have i2 : (k : Int) < (nb : Int) := by omega
                  obtain ⟨at_, hat⟩ : ∃ at_, (rp 0 ops)[k]? = some at_ := ⟨_, List.getElem?_eq_getElem (by rw [HNB.out]; exact hlt)⟩
                  obtain ⟨hatm, e, d, hd1, hd2⟩ := HAT.out k at_ hat
                  rw [HNA.out] at hatm
                  have hatq : at_ < q := by have := HQ.out; omega
                  have i3 : (0 : Int) ≤ (at_ : Int) := by omega
                  have i4 : (at_ : Int) < (q : Int) := by omega
                  obtain ⟨b1, o1, rfl, hb1, hc1⟩ := (H8.out.rd 2 rfl).at_ nc_len (by omega)
                  obtain ⟨b2, o2, rfl, hb2, hc2⟩ := (H8.out.rd 3 rfl).at_ Ft.A.len (by omega)
                  obtain ⟨b3, o3, rfl, hb3, hc3⟩ := (H8.out.rd 0 rfl).at_ icell_len (by omega)
                  have q1 : wr.cell? ⟨b1, o1 + k, none⟩ = some (.int .i64 (at_ : Int)) := by simpa using hc1 k 0 _ _ hat rfl
                  have q2 : wr.cell? ⟨b2, o2 + at_ * 2 + 1, none⟩ = some (.int .i64 d) := hc2 at_ 1 _ _ hd2 rfl
                  have q3 : wr.cell? ⟨b3, o3 + k, none⟩ = some (.int .i64 d) := by simpa using hc3 k 0 _ _ hd1 rfl
                  have q4 := H8.out.cell 1 rfl (k := 0) rfl
                  clear hc1 hc2 hc3 hb1 hb2 hb3 hat hd1 hd2
                  go_upto_region 32 with (fail)
                  have q2' := fun z : LaterOf wr => z.cell q2
                  have q3' := fun z : LaterOf wr => z.cell q3
                  have q4' := fun z : LaterOf wr => z.cell q4
                  clear q1 q2 q3 q4
                  refine wp_region_later (by kernel_rfl) (by kernel_rfl) ?_
                  repeat (go_big_quiet_step (fail))
                  refine wpQuiet_nil ?_; intro xw hw'; obtain ⟨xq, hw''⟩ := hw'; obtain ⟨xw0, xh⟩ := xq; change xw = xw0 at hw''; subst hw''
                  go_wp2
                  go_roundg (nb - (k + 1))
                  case measure => omega
                  case rel => exact ⟨k + 1, by omega, rfl, by go_num, HB.out.trans (xh.mono HB.out.size)⟩
                · have HBB := Lib.hid H8.out.below
                  clear H8
                  go_wp2
                  generalize wr = wc at HB HBB ⊢
                  go_loopg [125] 16 (fun g i wl => ∃ p : Nat, p ≤ 16 ∧ g = 16 - p ∧ i = .int .i64 (p : Int) ∧ Below w7.heap.size w7 wl)
                  case atStart => exact ⟨0, by omega, rfl, rfl, HB.out⟩
                  case round =>
                    clear HB HBB
                    obtain ⟨p, hp, rfl, rfl, hB⟩ := hrel
                    have HB := Lib.hid hB
                    clear hB
                    have H8 := Lib.hid (H7.out.later HB.out)
                    by_cases hlt : p < 16
                    · have i1 : (0 : Int) ≤ (p : Int) := by omega
                      have i2 : (p : Int) < 16 := by omega
                      obtain ⟨e, d, hd1, hd2⟩ := HST.out p hlt
                      rw [HNA.out] at hd2
                      obtain ⟨at_, hat⟩ : ∃ at_, na + p = at_ := ⟨_, rfl⟩
                      rw [hat] at hd2
                      have hatq : at_ < q := by have := HQ.out; omega
                      have i3 : (0 : Int) ≤ (at_ : Int) := by omega
                      have i4 : (at_ : Int) < (q : Int) := by omega
                      have v1 : (na : Int) + (p : Int) = (at_ : Int) := by omega
                      have v2 := wrap_i64 (show at_ ≤ 9223372036854775807 by omega)
                      obtain ⟨b2, o2, rfl, hb2, hc2⟩ := (H8.out.rd 3 rfl).at_ Ft.A.len (by omega)
                      have q2 : wr.cell? ⟨b2, o2 + at_ * 2 + 1, none⟩ = some (.int .i64 d) := hc2 at_ 1 _ _ hd2 rfl
                      have q4 : wr.cell? ⟨g5, 3 + p, none⟩ = some (.int .i64 d) := H8.out.cell 1 rfl (k := 3 + p) (by
                        unfold Ca.cdc
                        rw [List.getElem?_append_right (by simp), icell_at]
                        simp [hd1])
                      clear hc2 hb2 hd1 hd2 hat
                      go_upto_region 38 with (fail)
                      have q2' := fun z : LaterOf wr => z.cell q2
                      have q4' := fun z : LaterOf wr => z.cell q4
                      clear q2 q4
                      refine wp_region_later (by kernel_rfl) (by kernel_rfl) ?_
                      repeat (go_big_quiet_step (fail))
                      refine wpQuiet_nil ?_; intro xw hw'; obtain ⟨xq, hw''⟩ := hw'; obtain ⟨xw0, xh⟩ := xq; change xw = xw0 at hw''; subst hw''
                      go_wp2
                      go_roundg (16 - (p + 1))
                      case measure => omega
                      case rel => exact ⟨p + 1, by omega, rfl, by go_num, HB.out.trans (xh.mono HB.out.size)⟩
                    · have HBB := Lib.hid H8.out.below
                      clear H8
                      go_wp2
                      go_ret
                      exact Ret.mk rfl HBB.out
    · have hbad : sz < 1 ∨ sz > 16 ∨ ∃ o ∈ ops ++ [(⟨3, 0, 0⟩ : Ca.O)], ¬ Ca.Good o := by
        by_cases h1 : sz < 1
        · exact .inl h1
        · by_cases h2 : sz > 16
          · exact .inr (.inl h2)
          · refine .inr (.inr ?_)
            by_cases h3 : ∀ o ∈ ops, Ca.Good o
            · exact absurd ⟨by omega, by omega, h3⟩ hgood
            · have h4 : ∃ o, o ∈ ops ∧ ¬ Ca.Good o := by
                by_cases h5 : ∃ o, o ∈ ops ∧ ¬ Ca.Good o
                · exact h5
                · exact absurd (fun o ho => by
                    by_cases h6 : Ca.Good o
                    · exact h6
                    · exact absurd ⟨o, ho, h6⟩ h5) h3
              obtain ⟨o, h4, h5⟩ := h4
              exact ⟨o, List.mem_append_left _ h4, h5⟩
      have cP := Lib.hid (fun A6 c6 W (h : Rd W W.heap.size 3 A6 (n + 1) (ops.flatMap Ca.O.cells ++ [.int .i64 3, .int .i64 0, .int .i64 0])) => Ca.play_bad sz A6 (n + 1) c6 (ops ++ [⟨3, 0, 0⟩]) W (by rw [hfl]; exact h) hl1 (by omega) hbad)
      clear hr hg hl hl1 hfl hbad hgood hbig hn
      go_enter Tryz.func3, Tryz.ntmps3
      go_wp2_with fail
      refine cA.out.mono ?_; rintro en w1 ⟨rfl, hb1⟩
      have B1 := Lib.hid hb1
      clear hb1 cA
      go_wp2_with fail
      refine (cC.out w1 B1.out).mono ?_; rintro en w2 ⟨A1, c1, hc1, rfl, hs2⟩
      have H2 := Lib.hid (((Sep.nil_ w).later B1.out).join hs2)
      have hnew := Lib.hid (Rd.of_own (own_new w2 33 #[.int .i64 3, .int .i64 0, .int .i64 0] 3 1 rfl (by simp [maxLen]) (Nat.le_refl _)))
      clear hs2 cC B1
      go_wp2_with (at_builtin; refine wpList_append_sep (H2.out.alloc _) 0 rfl (.tmp 27) (.tmp 29) 22 rfl 33 ti (.agg #[.int .i64 0, .int .i64 0, .int .i64 0]) 3 24 Tryz.underlying22 hti t0 t1 t2 rfl (by omega) _ n _ rfl rfl _ _ 1 1 _ rfl hnew.out (by simp [Value.oneCell']) (by simp only [maxLen]; omega) (by omega) ?_; intro A6 c6 w6 hc6 hs6 H6'; have H6 := Lib.hid H6'; clear H6' hs6)
      clear hnew H2
      have hrd6 := H6.out.rd 0 rfl
      refine (cP.out A6 c6 w6 hrd6).mono ?_; rintro en w3 ⟨rfl, hb3⟩
      have H3 := Lib.hid (((Sep.nil_ w).later H6.out.below).later hb3)
      have F4 : Hid (Blk (w3.alloc (.cells Ca.Z0.toArray 27)) w3.heap.size 27 Ca.Z0) := Lib.hid (Blk.new w3 _ _)
      have S3 : Hid (Sep w ((w3.alloc (.cells #[.slice none 0 0, .int .i64 0, .int .i64 0, .int .i64 0, .int .i64 0, .int .i64 0, .int .i64 0, .int .i64 0, .int .i64 0, .int .i64 0, .int .i64 0, .int .i64 0, .int .i64 0, .int .i64 0, .int .i64 0, .int .i64 0, .int .i64 0, .int .i64 0, .int .i64 0] 27)).setRow w3.heap.size Ca.Z0.toArray) [.cells w3.heap.size 27 Ca.Z0]) := Lib.hid (H3.out.boxed 27 Ca.Z0 Ca.Z0)
      clear hb3 cP hrd6 H6 H3
      go_upto_region 6 with (refine wpList_store_row rfl 27 (.tmp 5) (.tmp 32) rfl w3.heap.size Ca.Z0.toArray rfl rfl 27 Ca.Z0.toArray F4.out Ca.info64z rfl Ca.z0_one ?_)
      generalize (w3.alloc (.cells #[.slice none 0 0, .int .i64 0, .int .i64 0, .int .i64 0, .int .i64 0, .int .i64 0, .int .i64 0, .int .i64 0, .int .i64 0, .int .i64 0, .int .i64 0, .int .i64 0, .int .i64 0, .int .i64 0, .int .i64 0, .int .i64 0, .int .i64 0, .int .i64 0, .int .i64 0] 27)).setRow w3.heap.size Ca.Z0.toArray = wa at S3 ⊢
      clear F4
      generalize w3.heap.size = g5 at S3 ⊢
      have e0 : wa.cell? ⟨g5, 0, none⟩ = some (.slice none 0 0) := S3.out.cell 0 rfl (k := 0) rfl
      have HF := Lib.hid S3.out.below
      clear S3
      go_wp2
      go_ret
      exact Ret.mk rfl HF.out
end Tc
end Go.Proofs.YtjopiepfjbnkbaaGreatDoor
