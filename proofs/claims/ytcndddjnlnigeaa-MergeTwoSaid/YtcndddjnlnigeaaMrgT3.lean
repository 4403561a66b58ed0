/-
  Walks of the reference's ZTwo, and of both where a table is not right. Conditions: none.
-/
import Derived.Test.YtcndddjnlnigeaaMrgT2
namespace Go.Proofs.Ytcndddjnlnigeaa
open Go.RowKit
set_option linter.unusedVariables false
namespace Mrg

theorem C.one (l : List C) : ∀ u ∈ l.flatMap C.cells, u.oneCell' = true := by
  intro u hu
  rw [List.mem_flatMap] at hu
  obtain ⟨x, _, hu⟩ := hu
  simp only [C.cells, List.mem_cons, List.not_mem_nil, or_false] at hu
  rcases hu with rfl | rfl | rfl <;> rfl
theorem hasK_snoc {ns : List C} {m : Nat} {x : C} {k : Int} (h : ns[m]? = some x) : hasK (ns.take (m + 1)) k = (hasK (ns.take m) k || (x.key == k)) := by
  unfold hasK
  rw [List.take_add_one, h, List.any_append]
  simp

theorem C.rowCells {cur : List C} {m : Nat} {y : C} (hy : cur[m]? = some y) : (cur.flatMap C.cells)[m * 3]? = some (.int .i64 y.key) ∧ (cur.flatMap C.cells)[m * 3 + 1]? = some (.int .i64 y.data) ∧ (cur.flatMap C.cells)[m * 3 + 2]? = some (.bool y.gone) :=
  ⟨flat_get C.len cur m 0 y hy (by decide), flat_get C.len cur m 1 y hy (by decide), flat_get C.len cur m 2 y hy (by decide)⟩

set_option maxRecDepth 100000 in
set_option maxHeartbeats 3200000 in
theorem ztwo_any (A1 A2 : Option Addr) (n1 n2 c1 c2 : Nat) (ns os r : List C) (w : World) (hr1 : Rd w w.heap.size 3 A1 n1 (ns.flatMap C.cells)) (hl1 : ns.length = n1) (hc1 : n1 ≤ c1) (hr2 : Rd w w.heap.size 3 A2 n2 (os.flatMap C.cells)) (hl2 : os.length = n2) (hc2 : n2 ≤ c2)
    (h1 : Rt ns) (h2 : Rt os) (hm : Mg ns os r) :
    Calls Try.prog 19 #[.slice A1 n1 c1, .slice A2 n2 c2] w (TwoRet w (outC r)) := by
  obtain ⟨ti, hti, t0, t1, t2⟩ := info_parts cell_info
  have b1 : n1 ≤ 4096 := by rw [← hl1]; exact h1.2
  have b2 : n2 ≤ 4096 := by rw [← hl2]; exact h2.2
  have HR1 := Lib.hid hr1
  have HR2 := Lib.hid hr2
  have HL1 := Lib.hid hl1
  have HL2 := Lib.hid hl2
  have HSO := Lib.hid (hm.sorted h1 h2)
  have cR1 := Lib.hid (fun W (hW : Below w.heap.size w W) => zright_is A1 n1 c1 ns true W (hr1.later hW) hl1 (by omega) (rt_iff_true h1))
  have cR2 := Lib.hid (fun W (hW : Below w.heap.size w W) => zright_is A2 n2 c2 os true W (hr2.later hW) hl2 (by omega) (rt_iff_true h2))
  clear hr1 hr2 hl1 hl2 hm h1 h2
  go_enter Try.func19, Try.ntmps19
  go_wp2_with fail
  refine (cR1.out _ (Below.refl _ _)).mono ?_; rintro e w1 ⟨rfl, hb1⟩
  go_wp2_with fail
  refine (cR2.out _ hb1).mono ?_; rintro e w2 ⟨rfl, hb2⟩
  have HS0 : Hid (Sep w (w2.alloc (.cells #[] 44)) [.row 44 3 (.slice (some ⟨w2.heap.size, 0, none⟩) 0 0) 0 []]) := Lib.hid (((((Sep.nil_ w).later hb1).later hb2).alloc _).nilRow 44 3 _)
  have HRs := Lib.hid (HR1.out.later (HS0.out.below))
  clear cR1 cR2 hb1 hb2
  go_wp2_with (at_builtin; refine wpList_append_sep HS0.out 0 rfl (.tmp 22) (.tmp 23) 42 rfl 44 ti (.agg #[.int .i64 0, .int .i64 0, .bool false]) 3 24 Try.underlying42 hti t0 t1 t2 rfl (by omega) _ 0 _ rfl rfl _ _ n1 c1 _ rfl HRs.out (C.one ns) (by simp only [maxLen]; omega) (by omega) ?_; intro A6 c6 w3 hc6 hs3 HA)
  have HS3 : Hid (Sep w w3 [.row 44 3 (.slice A6 ns.length c6) ns.length (ns.flatMap C.cells)]) := Lib.hid (by
    have := HA
    rw [Nat.zero_add] at this
    rw [HL1.out]
    exact this)
  clear HA HS0 HRs hc6 hs3
  go_loopg [6, 27] n2 (fun g v6 i wr => ∃ (k : Nat) (A6 : Option Addr) (c6 : Nat) (out : List C), k ≤ n2 ∧ g = n2 - k ∧ i = .int .i64 k ∧ v6 = .slice A6 out.length c6 ∧ Hid (out = ns ++ restC ns (os.take k)) ∧ out.length ≤ n1 + k ∧ Sep w wr [.row 44 3 (.slice A6 out.length c6) out.length (out.flatMap C.cells)])
  case atStart => exact ⟨0, A6, c6, ns, Nat.zero_le _, rfl, rfl, by rw [HL1.out], Lib.hid (by simp [restC]), by rw [HL1.out]; omega, HS3.out⟩
  case round =>
    clear HS3
    obtain ⟨k, A6, c6, out, hk, rfl, rfl, rfl, HO, hbd, hs⟩ := hrel
    have HS := Lib.hid hs
    clear hs
    by_cases hlt : k < n2
    · obtain ⟨b, off, rfl, hb, hc⟩ := HR2.out.at_ C.len (by omega)
      obtain ⟨x, hx⟩ : ∃ x, os[k]? = some x := ⟨_, List.getElem?_eq_getElem (by rw [HL2.out]; exact hlt)⟩
      obtain ⟨d0, d1, d2⟩ := C.facts hb HS.out.below hc hx
      have i0 : (0 : Int) ≤ (k : Int) := by omega
      have i1 : (k : Int) < (n2 : Int) := by omega
      have HX := Lib.hid hx
      clear hc hx
      have HS1 : Hid (Sep w (wr.alloc (.cells #[.int .i64 x.key, .int .i64 x.data, .bool x.gone] 44)) [.row 44 3 (.slice A6 out.length c6) out.length (out.flatMap C.cells), .cells wr.heap.size 44 x.cells]) := Lib.hid (HS.out.new 44 x.cells)
      go_wp2
      generalize wr.alloc (.cells #[.int .i64 x.key, .int .i64 x.data, .bool x.gone] 44) = wo at HS1 ⊢
      generalize wr.heap.size = gb at HS1 ⊢
      clear HS d0 d1 d2
      go_loopg [9, 33] n1 (fun g v9 i wr => ∃ (m : Nat) (had : Bool), m ≤ n1 ∧ g = n1 - m ∧ i = .int .i64 m ∧ v9 = .bool had ∧ Hid (had = hasK (ns.take m) x.key) ∧ Sep w wr [.row 44 3 (.slice A6 out.length c6) out.length (out.flatMap C.cells), .cells gb 44 x.cells])
      case atStart => exact ⟨0, false, Nat.zero_le _, rfl, rfl, rfl, Lib.hid (by simp [hasK]), HS1.out⟩
      case round =>
        clear HS1 wo
        obtain ⟨m, had, hm, rfl, rfl, rfl, HH, hs⟩ := hrel
        have HS := Lib.hid hs
        clear hs
        have e0 := HS.out.cell 1 rfl (k := 0) rfl
        have e1 := HS.out.cell 1 rfl (k := 1) rfl
        have e2 := HS.out.cell 1 rfl (k := 2) rfl
        by_cases hlt2 : m < n1
        · obtain ⟨b', off', rfl, hb', hc'⟩ := HR1.out.at_ C.len (by omega)
          obtain ⟨y, hy⟩ : ∃ y, ns[m]? = some y := ⟨_, List.getElem?_eq_getElem (by rw [HL1.out]; exact hlt2)⟩
          obtain ⟨d0, d1, d2⟩ := C.facts hb' HS.out.below hc' hy
          have j0 : (0 : Int) ≤ (m : Int) := by omega
          have j1 : (m : Int) < (n1 : Int) := by omega
          have HN : Hid (hasK (ns.take (m + 1)) x.key = (had || (y.key == x.key))) := Lib.hid (by rw [hasK_snoc hy, HH.out])
          clear hc' hy
          have HS2 := HS.out.alloc (.cells #[.int .i64 y.key, .int .i64 y.data, .bool y.gone] 44)
          have f0 := HS2.cell 1 rfl (k := 0) rfl
          have HS2' := Lib.hid HS2
          clear HS2
          cases had with
          | true =>
            go_wp2
            go_roundg (n1 - (m + 1))
            case measure => omega
            case rel => exact ⟨m + 1, true, by omega, rfl, by go_num, rfl, Lib.hid (by rw [HN.out]; rfl), HS2'.out⟩
          | false =>
            go_wp2
            go_roundg (n1 - (m + 1))
            case measure => omega
            case rel => exact ⟨m + 1, y.key == x.key, by omega, rfl, by go_num, rfl, Lib.hid (by rw [HN.out]; rfl), HS2'.out⟩
        · obtain rfl : m = n1 := by omega
          have HHk : Hid (had = hasK ns x.key) := Lib.hid (by rw [HH.out, List.take_of_length_le (by rw [HL1.out]; omega)])
          have HRest : Hid (restC ns (os.take (k + 1)) = if had then restC ns (os.take k) else restC ns (os.take k) ++ [x]) := Lib.hid (by rw [List.take_add_one, HX.out, HHk.out]; exact restC_snoc _ _ _)
          cases had with
          | true =>
            go_wp2
            go_roundg (n2 - (k + 1))
            case measure => omega
            case rel => exact ⟨k + 1, A6, c6, out, by omega, rfl, by go_num, rfl, Lib.hid (by rw [HRest.out]; exact HO.out), by omega, HS.out.pick [0] (by decide) (by simp)⟩
          | false =>
            have hnew := Lib.hid (Rd.of_own (own_new wr 44 #[.int .i64 x.key, .int .i64 x.data, .bool x.gone] 3 1 rfl (by simp [maxLen]) (Nat.le_refl _)))
            go_wp2_with (at_builtin; refine wpList_append_sep (HS.out.alloc _) 0 rfl (.tmp 48) (.tmp 50) 42 rfl 44 ti (.agg #[.int .i64 0, .int .i64 0, .bool false]) 3 24 Try.underlying42 hti t0 t1 t2 rfl (by omega) _ out.length _ rfl rfl _ _ 1 1 _ rfl hnew.out (by simp [Value.oneCell']) (by simp only [maxLen]; omega) (by omega) ?_; intro A7 c7 w7 hc7 hs7 H7)
            go_roundg (n2 - (k + 1))
            case measure => omega
            case rel => exact ⟨k + 1, A7, c7, out ++ [x], by omega, rfl, by go_num, by simp, Lib.hid (by rw [HRest.out, HO.out]; simp), by simp; omega, by rw [List.length_append, List.flatMap_append]; exact H7.pick [0] (by decide) (by simp)⟩
    · obtain rfl : k = n2 := by omega
      have HOE : Hid (sortC out = r) := Lib.hid (by rw [HO.out, List.take_of_length_le (by rw [HL2.out]; omega)]; exact HSO.out)
      have hbd2 : out.length ≤ 8192 := by omega
      clear HO HSO hlt HR1 HR2 hbd
      by_cases hbig : (4096 : Int) < (out.length : Int)
      · have HQ : Hid (outC r = ([], 4)) := Lib.hid (by rw [← HOE.out, outC, if_pos (by rw [sortC_len]; omega)])
        go_wp2
        go_ret2
        rw [HQ.out]
        exact ⟨none, 0, rfl, (HS.out.pick [] (by decide) (by simp)).nilRow 44 3 none⟩
      · have HQ : Hid (outC r = (Srt.isort ltC out.length out, 0)) := Lib.hid (by rw [← HOE.out, outC, if_neg (by rw [sortC_len]; omega)]; rfl)
        clear HOE
        obtain ⟨N, hN⟩ : ∃ N, N = out.length := ⟨_, rfl⟩
        have HN := Lib.hid hN
        rw [← hN] at HS hbig hbd2 HQ ⊢
        clear hN
        obtain ⟨wo, rfl⟩ : ∃ wo : World, wo = wr := ⟨_, rfl⟩
        go_wp2
        go_loopg [58] N (fun g i wr => ∃ (a : Nat), a ≤ N ∧ g = N - a ∧ i = .int .i64 a ∧ Sep w wr [.row 44 3 (.slice A6 N c6) N ((Srt.isort ltC a out).flatMap C.cells)])
        case atStart => exact ⟨0, Nat.zero_le _, rfl, rfl, HS.out⟩
        case round =>
          clear HS
          obtain ⟨a, ha, rfl, rfl, hs⟩ := hrel
          have HS := Lib.hid hs
          clear hs
          by_cases hlt : a < N
          · obtain ⟨wo, rfl⟩ : ∃ wo : World, wo = wr := ⟨_, rfl⟩
            go_wp2
            go_loopg [13] a (fun g i wr => ∃ (cur : List C), g ≤ a ∧ i = .int .i64 (g : Int) ∧ cur.length = N ∧ Hid (Srt.sink ltC g cur = Srt.isort ltC (a + 1) out) ∧ Sep w wr [.row 44 3 (.slice A6 N c6) N (cur.flatMap C.cells)])
            case atStart => exact ⟨Srt.isort ltC a out, Nat.le_refl _, rfl, by rw [Srt.isort_len, HN.out], Lib.hid rfl, HS.out⟩
            case round =>
              clear HS
              obtain ⟨cur, hg, rfl, hcl, HK, hs⟩ := hrel
              have HS := Lib.hid hs
              have HCL := Lib.hid hcl
              clear hs hcl
              rcases Nat.eq_zero_or_pos gk with h0 | hpos
              · subst h0
                go_wp2
                go_quiet (fail)
                go_wp2
                generalize hxw : World.drewN wr _ = xw
                have xh : Below wr.heap.size wr xw := by rw [← hxw]; exact below_drewN (Below.refl _ _) _
                clear hxw
                go_roundg (N - (a + 1))
                case measure => omega
                case rel => exact ⟨a + 1, by omega, rfl, by go_num, by rw [← HK.out]; exact HS.out.later xh⟩
              · obtain ⟨m, rfl⟩ : ∃ m, gk = m + 1 := ⟨gk - 1, by omega⟩
                clear hpos
                have hcl := HCL.out
                obtain ⟨x, hx⟩ : ∃ x, cur[m + 1]? = some x := ⟨_, List.getElem?_eq_getElem (by omega)⟩
                obtain ⟨y, hy⟩ : ∃ y, cur[m]? = some y := ⟨_, List.getElem?_eq_getElem (by omega)⟩
                obtain ⟨p0, p1, p2⟩ := C.rowCells hx
                obtain ⟨q0, q1, q2⟩ := C.rowCells hy
                obtain ⟨g6, rfl, hg6, hat⟩ := HS.out.rowAt 0 rfl (by omega)
                have d0 := (hat _).1 _ p0
                have e0 := (hat _).1 _ q0
                have i0 : (0 : Int) ≤ (m : Int) := by omega
                have i1 : (m : Int) < (N : Int) := by omega
                have i2 : (0 : Int) < ((m + 1 : Nat) : Int) := by omega
                have i3 : ((m + 1 : Nat) : Int) - 1 = (m : Int) := by omega
                have i4 : ((m + 1 : Nat) : Int) < (N : Int) := by omega
                clear hat
                by_cases hk : x.key < y.key
                · have HKN := Lib.hid ((Srt.sink_go ltC hx hy (decide_eq_true hk)).symm.trans HK.out)
                  go_wp2
                  go_quiet (fail)
                  go_wp2
                  clear d0 e0
                  generalize hxw : World.drewN wr _ = xw
                  have xh : Below wr.heap.size wr xw := by rw [← hxw]; exact below_drewN (Below.refl _ _) _
                  clear hxw
                  have HSx := Lib.hid (HS.out.later xh)
                  obtain ⟨g', hg', _, hat⟩ := HSx.out.rowAt 0 rfl (by omega)
                  cases hg'
                  have d0 := (hat _).1 _ p0
                  have d1 := (hat _).1 _ p1
                  have d2 := (hat _).1 _ p2
                  have e0 := (hat _).1 _ q0
                  have e1 := (hat _).1 _ q1
                  have e2 := (hat _).1 _ q2
                  have u0 := (hat ((m + 1) * 3)).2.1
                  have u1 := (hat ((m + 1) * 3 + 1)).2.1
                  have u2 := (hat ((m + 1) * 3 + 2)).2.1
                  have u3 := (hat (m * 3)).2.1
                  have u4 := (hat (m * 3 + 1)).2.1
                  have u5 := (hat (m * 3 + 2)).2.1
                  have K := Lib.hid ((HSx.out.elem C.len 0 rfl (m + 1) (by omega) (by omega) y).elem C.len 0 rfl m (by simp; omega) (by omega) x)
                  clear hat HS HSx p0 p1 p2 q0 q1 q2 hx hy hcl xh
                  go_region
                  all_goals
                    go_wp2
                    go_roundg m
                    case measure => omega
                    case rel => exact ⟨(cur.set (m + 1) y).set m x, by omega, rfl, by simp [HCL.out], HKN, K.out.drew⟩
                · have HKN := Lib.hid ((Srt.sink_stop ltC hx hy (decide_eq_false hk)).symm.trans HK.out)
                  clear p0 p1 p2 q0 q1 q2 hx hy hcl
                  go_wp2
                  go_quiet (fail)
                  go_wp2
                  generalize hxw : World.drewN wr _ = xw
                  have xh : Below wr.heap.size wr xw := by rw [← hxw]; exact below_drewN (Below.refl _ _) _
                  clear hxw
                  go_roundg (N - (a + 1))
                  case measure => omega
                  case rel => exact ⟨a + 1, by omega, rfl, by go_num, by rw [← HKN.out]; exact HS.out.later xh⟩
          · obtain rfl : a = N := by omega
            have hl : (Srt.isort ltC a out).length = a := by rw [Srt.isort_len, HN.out]
            have HL := Lib.hid hl
            clear hl
            go_wp2
            go_ret2
            rw [HQ.out]
            refine ⟨A6, c6, ?_, ?_⟩
            · show Ending.returned (.tuple #[.slice A6 a c6, .int .i64 0]) = Ending.returned (.tuple #[.slice A6 (Srt.isort ltC a out).length c6, .int .i64 0])
              rw [HL.out]
            · show Sep w wr [.row _ 3 (.slice A6 (Srt.isort ltC a out).length c6) (Srt.isort ltC a out).length _]
              rw [HL.out]
              exact HS.out
end Mrg
end Go.Proofs.Ytcndddjnlnigeaa
