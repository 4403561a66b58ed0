/-
  Folders: walks of dir.Remove, of the reference's OSort and of slices.Equal at entries. Conditions: none beyond each theorem's own premises.
-/
import Derived.Test.YtelgalhkggnkbabDrA
import Derived.Test.YtelgalhkggnkbabSort
import Derived.Test.YtelgalhkggnkbabEq
import Derived.BigRegion
namespace Go.Proofs.Ytelgalhkggnkbab
open Go.RowKit Go.Shelf
set_option linter.unusedVariables false
namespace Dr

/-- what Remove answers -/
inductive RemW (l : List En) (nm : ByteArray) : List En → Int → Prop
  | form (h : ¬ RightL l) : RemW l nm [] 1
  | none (h : RightL l) (h2 : ∀ x ∈ l, x.nm ≠ nm) : RemW l nm [] 3
  | ok (h : RightL l) (i : Nat) (x : En) (h3 : l[i]? = some x) (h4 : x.nm = nm) : RemW l nm (l.take i ++ l.drop (i + 1)) 0
set_option maxRecDepth 100000 in
set_option maxHeartbeats 3200000 in
theorem remove_any (A : Option Addr) (n c : Nat) (l : List En) (nm : ByteArray) (w : World) (hr : Rd w w.heap.size 2 A n (l.flatMap En.cells)) (hl : l.length = n) (hn : n ≤ 5864062014804) :
    Calls Try.prog 19 #[.slice A n c, .string nm] w (ERet w (RemW l nm)) := by
  obtain ⟨rb, hrb⟩ : ∃ rb : Bool, rb = true ↔ RightL l := ⟨decide (RightL l), by simp⟩
  have cR := Lib.hid (fun W (hW : Below w.heap.size w W) => dright_any A n c l rb W (hr.later hW) hl (by omega) hrb)
  have cS := Lib.hid (at_any A n c l nm w hr hl (by omega))
  have cK := Lib.hid (fun W (hW : Below w.heap.size w W) => eclone_any A n c (l.flatMap En.cells) W (hr.later hW) (En.one l) (by omega) (by omega))
  have HRB := Lib.hid hrb
  have HR := Lib.hid hr
  have HL := Lib.hid hl
  clear hr hl hrb
  go_enter Try.func19, Try.ntmps19
  go_wp2_with fail
  refine cS.out.mono ?_; rintro en w1 ⟨p, b, rfl, hpn, hin, hat, hb1⟩
  have HB1 := Lib.hid hb1
  have HAT := Lib.hid hat
  clear hb1 hat cS
  go_wp2_with fail
  refine (cR.out w1 HB1.out).mono ?_; rintro en w2 ⟨rfl, hb2⟩
  have HB2 := Lib.hid (HB1.out.trans (hb2.mono HB1.out.size))
  clear hb2 cR
  cases rb with
  | false =>
    go_wp2
    go_ret2
    exact ERet.nil_ (.form (fun h => absurd (HRB.out.2 h) (by decide))) HB2.out
  | true =>
    have hri : RightL l := by have := HRB.out; simpa using this
    have HRI := Lib.hid hri
    clear hri HRB
    cases b with
    | false =>
      go_wp2
      go_ret2
      exact ERet.nil_ (.none HRI.out (HAT.out.none HRI.out)) HB2.out
    | true =>
      have hin2 : p < n := by simpa using hin
      obtain ⟨m, rfl⟩ : ∃ m, n = m + 1 := ⟨n - 1, by omega⟩
      obtain ⟨x, hx, hxn⟩ := ((HAT.out HRI.out).2.2).1 (by simp)
      have HX := Lib.hid (And.intro hx hxn)
      have hpm : p ≤ m := by omega
      clear hx hxn hin HAT
      go_wp2_with fail
      refine (cK.out w2 HB2.out).mono ?_; rintro en w3 ⟨A2, c2, hc2, rfl, hs3⟩
      have HS3 := Lib.hid ((((Sep.nil_ w).later HB2.out)).join hs3)
      have cD := Lib.hid (delete_any w w3 [] A2 m c2 p (l.flatMap En.cells) HS3.out hpm hc2 (by omega) (En.one l))
      clear hs3 cK
      obtain ⟨p1, hp1⟩ : ∃ p1 : Int, p1 = (p : Int) + 1 := ⟨_, rfl⟩
      go_wp2_with fail
      refine cD.out.mono ?_; rintro en w4 ⟨rfl, hs4⟩
      have HS4 := Lib.hid hs4
      clear hs4 cD HS3
      go_wp2
      go_ret2
      have hlen : (l.take p ++ l.drop (p + 1)).length = m := by
        rw [List.length_append, List.length_take, List.length_drop, HL.out]
        omega
      refine ⟨A2, c2, _, 0, by rw [hlen]; rfl, .ok HRI.out p x HX.out.1 HX.out.2, ?_, HS4.out.below⟩
      rw [hlen]
      have h := HS4.out.rd 0 rfl
      rw [flat_take En.len, flat_drop En.len] at h
      rw [List.flatMap_append]
      exact h

def ltE (x y : En) : Bool := ltN x.nm y.nm
theorem En.rowCells {cur : List En} {m : Nat} {y : En} (hy : cur[m]? = some y) : (cur.flatMap En.cells)[m * 2]? = some (.string y.nm) ∧ (cur.flatMap En.cells)[m * 2 + 1]? = some (.int .i64 y.id) :=
  ⟨flat_get En.len cur m 0 y hy (by decide), flat_get En.len cur m 1 y hy (by decide)⟩
set_option maxRecDepth 100000 in
set_option maxHeartbeats 3200000 in
theorem osort_any (A : Option Addr) (N c : Nat) (l : List En) (w : World) (hr : Rd w w.heap.size 2 A N (l.flatMap En.cells)) (hl : l.length = N) (hn : N ≤ 5864062014805) :
    Calls Try.prog 11 #[.slice A N c] w (fun e w' => ∃ A1 c1, e = .returned (.slice A1 N c1) ∧ Sep w w' [.row 30 2 (.slice A1 N c1) N ((Srt.isort ltE N l).flatMap En.cells)]) := by
  have cK := Lib.hid (eclone_any A N c (l.flatMap En.cells) w hr (En.one l) (by omega) (by omega))
  have HN := Lib.hid hl.symm
  clear hr hl
  go_enter Try.func11, Try.ntmps11
  go_wp2_with fail
  refine cK.out.mono ?_; rintro en w3 ⟨A6, c6, hc2, rfl, hs3⟩
  have HS := Lib.hid hs3
  clear hs3 cK
  go_wp2
  go_loopg [10] N (fun g i wr => ∃ (a : Nat), a ≤ N ∧ g = N - a ∧ i = .int .i64 a ∧ Sep w wr [.row 30 2 (.slice A6 N c6) N ((Srt.isort ltE a l).flatMap En.cells)])
  case atStart => exact ⟨0, Nat.zero_le _, rfl, rfl, HS.out⟩
  case round =>
    clear HS
    obtain ⟨a, ha, rfl, rfl, hs⟩ := hrel
    have HS := Lib.hid hs
    clear hs
    by_cases hlt : a < N
    · go_wp2
      go_loopg [5] a (fun g i wr => ∃ (cur : List En), g ≤ a ∧ i = .int .i64 (g : Int) ∧ cur.length = N ∧ Hid (Srt.sink ltE g cur = Srt.isort ltE (a + 1) l) ∧ Sep w wr [.row 30 2 (.slice A6 N c6) N (cur.flatMap En.cells)])
      case atStart => exact ⟨Srt.isort ltE a l, Nat.le_refl _, rfl, by rw [Srt.isort_len, HN.out], Lib.hid rfl, HS.out⟩
      case round =>
        clear HS
        obtain ⟨cur, hg, rfl, hcl, HK, hs⟩ := hrel
        have HS := Lib.hid hs
        have HCL := Lib.hid hcl
        clear hs hcl
        rcases Nat.eq_zero_or_pos gk with h0 | hpos
        · subst h0
          go_wp2
          go_quiet (fail)
          go_wp2
          generalize hxw : World.drewN wr _ = xw
          have xh : Below wr.heap.size wr xw := by rw [← hxw]; exact below_drewN (Below.refl _ _) _
          clear hxw
          go_roundg (N - (a + 1))
          case measure => omega
          case rel => exact ⟨a + 1, by omega, rfl, by go_num, by rw [← HK.out]; exact HS.out.later xh⟩
        · obtain ⟨m, hm⟩ : ∃ m, m + 1 = gk := ⟨gk - 1, by omega⟩
          have hcl := HCL.out
          obtain ⟨x, hx⟩ : ∃ x, cur[m + 1]? = some x := ⟨_, List.getElem?_eq_getElem (by omega)⟩
          obtain ⟨y, hy⟩ : ∃ y, cur[m]? = some y := ⟨_, List.getElem?_eq_getElem (by omega)⟩
          have hlb : ∃ lb, ltN x.nm y.nm = lb := ⟨_, rfl⟩
          obtain ⟨lb, hlb⟩ := hlb
          have hK : Srt.sink ltE (m + 1) cur = Srt.isort ltE (a + 1) l := by rw [hm]; exact HK.out
          have hgo : ltE x y = true → Srt.sink ltE m ((cur.set (m + 1) y).set m x) = Srt.isort ltE (a + 1) l := fun h => (Srt.sink_go ltE hx hy h).symm.trans hK
          have hstop : ltE x y = false → cur = Srt.isort ltE (a + 1) l := fun h => (Srt.sink_stop ltE hx hy h).symm.trans hK
          rw [hm] at hx hgo
          clear hK
          have HGO := Lib.hid hgo
          have HSTOP := Lib.hid hstop
          obtain ⟨p0, p1⟩ := En.rowCells hx
          obtain ⟨q0, q1⟩ := En.rowCells hy
          obtain ⟨g6, rfl, hg6, hat⟩ := HS.out.rowAt 0 rfl (by omega)
          have d0 := (hat _).1 _ p0
          have e0 := (hat _).1 _ q0
          have i0 : (0 : Int) ≤ (m : Int) := by omega
          have i1 : (m : Int) < (N : Int) := by omega
          have i2 : decide (0 < gk) = true := decide_eq_true hpos
          have i3 : (gk : Int) - 1 = (m : Int) := by omega
          have i4 : (gk : Int) < (N : Int) := by omega
          have hmg : m < gk := by omega
          have hma : m ≤ a := by omega
          have hne : m * 2 + 2 = gk * 2 := by omega
          have HNE := Lib.hid hne
          unfold ltN at hlb
          clear hat hx hy hgo hstop hne
          cases lb with
          | true =>
            have HKN : Hid (Srt.sink ltE m ((cur.set gk y).set m x) = Srt.isort ltE (a + 1) l) := Lib.hid (HGO.out hlb)
            clear HGO HSTOP
            go_wp2
            go_quiet (fail)
            go_wp2
            clear d0 e0
            generalize hxw : World.drewN wr _ = xw
            have xh : Below wr.heap.size wr xw := by rw [← hxw]; exact below_drewN (Below.refl _ _) _
            clear hxw
            have HSx := Lib.hid (HS.out.later xh)
            obtain ⟨g', hg', _, hat⟩ := HSx.out.rowAt 0 rfl (by omega)
            cases hg'
            have d0 := (hat _).1 _ p0
            have d1 := (hat _).1 _ p1
            have e0 := (hat _).1 _ q0
            have e1 := (hat _).1 _ q1
            have u0 := (hat (gk * 2)).2.1
            have u1 := (hat (gk * 2 + 1)).2.1
            have u3 := (hat (m * 2)).2.1
            have u4 := (hat (m * 2 + 1)).2.1
            have K := Lib.hid ((HSx.out.elem En.len 0 rfl gk (by omega) (by omega) y).elem En.len 0 rfl m (by simp; omega) (by omega) x)
            clear hat HS HSx p0 p1 q0 q1 hcl xh hm hlb
            go_region
            all_goals
              go_wp2
              go_roundg m
              case measure => exact hmg
              case rel => exact ⟨(cur.set gk y).set m x, hma, rfl, by simp [HCL.out], HKN, K.out.drew⟩
          | false =>
            have HKN : Hid (cur = Srt.isort ltE (a + 1) l) := Lib.hid (HSTOP.out hlb)
            clear HGO HSTOP p0 p1 q0 q1 hcl hm
            go_wp2
            go_quiet (fail)
            go_wp2
            generalize hxw : World.drewN wr _ = xw
            have xh : Below wr.heap.size wr xw := by rw [← hxw]; exact below_drewN (Below.refl _ _) _
            clear hxw
            go_roundg (N - (a + 1))
            case measure => omega
            case rel => exact ⟨a + 1, by omega, rfl, by go_num, by rw [← HKN.out]; exact HS.out.later xh⟩
    · obtain rfl : a = N := by omega
      go_wp2
      go_ret
      exact ⟨A6, c6, rfl, HS.out⟩

theorem neqEn (x : En) (w : World) : (binOp .neq 30 (.agg #[.string x.nm, .int .i64 x.id]) (.agg #[.string x.nm, .int .i64 x.id])).run Try.prog w = .ok (.bool false) w := by
  obtain ⟨a, b⟩ := x
  exact run_neq_self _ _ w (by kernel_rfl)
set_option maxHeartbeats 1600000 in
theorem equal_entries (A A' : Option Addr) (n c c' : Nat) (l : List En) (w : World) (hr : Rd w w.heap.size 2 A n (l.flatMap En.cells)) (hr' : Rd w w.heap.size 2 A' n (l.flatMap En.cells)) (hl : l.length = n) (hn : n ≤ 9223372036854775807) :
    Calls Try.prog 8 #[.slice A n c, .slice A' n c'] w (Ret w (.bool true)) := by
  have HR := Lib.hid hr
  have HR' := Lib.hid hr'
  have HL := Lib.hid hl
  clear hr hr' hl
  go_enter Try.func8, Try.ntmps8
  go_wp2
  go_loopg [13] n (fun g i wr => ∃ k : Nat, k ≤ n ∧ g = n - k ∧ i = .int .i64 k ∧ Below w.heap.size w wr)
  case atStart => exact ⟨0, Nat.zero_le _, rfl, rfl, Below.refl _ _⟩
  case round =>
    obtain ⟨k, hk, rfl, rfl, hB⟩ := hrel
    by_cases hlt : k < n
    · obtain ⟨b, off, rfl, hb, hc⟩ := HR.out.at_ En.len (by omega)
      obtain ⟨b', off', rfl, hb', hc'⟩ := HR'.out.at_ En.len (by omega)
      obtain ⟨y, hy⟩ : ∃ y, l[k]? = some y := ⟨_, List.getElem?_eq_getElem (by rw [HL.out]; exact hlt)⟩
      have d1 := En.facts hb hB hc hy
      have d2 := En.facts hb' hB hc' hy
      have E := neqEn y
      have i0 : (0 : Int) ≤ (k : Int) := by omega
      have i1 : (k : Int) < (n : Int) := by omega
      clear hc hc' hy
      go_wp2
      go_quiet (fail)
      go_wp2
      generalize hxw : World.drewN wr _ = xw
      have xh : Below wr.heap.size wr xw := by rw [← hxw]; exact below_drewN (Below.refl _ _) _
      clear hxw
      go_roundg (n - (k + 1))
      case measure => omega
      case rel => exact ⟨k + 1, by omega, rfl, by go_num, hB.trans (xh.mono hB.size)⟩
    · go_wp2
      go_ret
      exact Ret.mk rfl hB
end Dr
end Go.Proofs.Ytelgalhkggnkbab
