/-
  StorePlays: store.Play answers as the reference does, for every list of operations. Conditions: none.
-/
import Derived.Test.YtelgalhkggnkbabSoX2
import Derived.Test.YtelgalhkggnkbabEq
import Derived.Test.YtelgalhkggnkbabParse
import Derived.Test.YtelgalhkggnkbabParse3
import Derived.Test.YtelgalhkggnkbabReach
import Derived.ChangeMaps5
namespace Go.Proofs.Ytelgalhkggnkbab
open Go.ChangeShapes Go.WideShapes Go.ChangeAt Go.RowKit
set_option linter.unusedVariables false
namespace So
open Dr

theorem An.facts {l : List An} {k : Nat} {x : An} {b off B : Nat} {w w' : World} (hb : b < B) (hB : Below B w w') (hc : ∀ (j d : Nat) (x : An) (v : Value), l[j]? = some x → x.cells[d]? = some v → w.cell? ⟨b, off + (j * 2 + d), none⟩ = some v) (hx : l[k]? = some x) :
    w'.cell? ⟨b, off + k * 2, none⟩ = some (.int .i64 x.er) ∧ w'.cell? ⟨b, off + k * 2 + 1, none⟩ = some (.string x.dt) :=
  ⟨(hB.cell hb).trans (hc k 0 x _ hx rfl), (hB.cell hb).trans (hc k 1 x _ hx rfl)⟩
theorem Kp.facts {l : List Kp} {k : Nat} {x : Kp} {b off B : Nat} {w w' : World} (hb : b < B) (hB : Below B w w') (hc : ∀ (j d : Nat) (x : Kp) (v : Value), l[j]? = some x → x.cells[d]? = some v → w.cell? ⟨b, off + (j * 2 + d), none⟩ = some v) (hx : l[k]? = some x) :
    w'.cell? ⟨b, off + k * 2, none⟩ = some (.string x.nm) ∧ w'.cell? ⟨b, off + k * 2 + 1, none⟩ = some (.string x.dt) :=
  ⟨(hB.cell hb).trans (hc k 0 x _ hx rfl), (hB.cell hb).trans (hc k 1 x _ hx rfl)⟩
theorem neqAn (x : An) (w : World) : (binOp .neq 41 (.agg #[.int .i64 x.er, .string x.dt]) (.agg #[.int .i64 x.er, .string x.dt])).run Try.prog w = .ok (.bool false) w := by
  obtain ⟨a, b⟩ := x
  exact run_neq_self _ _ w (by kernel_rfl)
theorem neqKp (x : Kp) (w : World) : (binOp .neq 44 (.agg #[.string x.nm, .string x.dt]) (.agg #[.string x.nm, .string x.dt])).run Try.prog w = .ok (.bool false) w := by
  obtain ⟨a, b⟩ := x
  exact run_neq_self _ _ w (by kernel_rfl)
set_option maxHeartbeats 1600000 in
theorem equal_ans (A A' : Option Addr) (n c c' : Nat) (l : List An) (w : World) (hr : Rd w w.heap.size 2 A n (l.flatMap An.cells)) (hr' : Rd w w.heap.size 2 A' n (l.flatMap An.cells)) (hl : l.length = n) (hn : n ≤ 9223372036854775807) :
    Calls Try.prog 14 #[.slice A n c, .slice A' n c'] w (Ret w (.bool true)) := by
  have HR := Lib.hid hr
  have HR' := Lib.hid hr'
  have HL := Lib.hid hl
  clear hr hr' hl
  go_enter Try.func14, Try.ntmps14
  go_wp2
  go_loopg [13] n (fun g i wr => ∃ k : Nat, k ≤ n ∧ g = n - k ∧ i = .int .i64 k ∧ Below w.heap.size w wr)
  case atStart => exact ⟨0, Nat.zero_le _, rfl, rfl, Below.refl _ _⟩
  case round =>
    obtain ⟨k, hk, rfl, rfl, hB⟩ := hrel
    by_cases hlt : k < n
    · obtain ⟨b, off, rfl, hb, hc⟩ := HR.out.at_ An.len (by omega)
      obtain ⟨b', off', rfl, hb', hc'⟩ := HR'.out.at_ An.len (by omega)
      obtain ⟨y, hy⟩ : ∃ y, l[k]? = some y := ⟨_, List.getElem?_eq_getElem (by rw [HL.out]; exact hlt)⟩
      have d1 := An.facts hb hB hc hy
      have d2 := An.facts hb' hB hc' hy
      have E := neqAn y
      have i0 : (0 : Int) ≤ (k : Int) := by omega
      have i1 : (k : Int) < (n : Int) := by omega
      clear hc hc' hy
      go_wp2
      go_quiet (fail)
      go_wp2
      generalize hxw : World.drewN wr _ = xw
      have xh : Below wr.heap.size wr xw := by rw [← hxw]; exact below_drewN (Below.refl _ _) _
      clear hxw
      go_roundg (n - (k + 1))
      case measure => omega
      case rel => exact ⟨k + 1, by omega, rfl, by go_num, hB.trans (xh.mono hB.size)⟩
    · go_wp2
      go_ret
      exact Ret.mk rfl hB
set_option maxHeartbeats 1600000 in
theorem equal_kept (A A' : Option Addr) (n c c' : Nat) (l : List Kp) (w : World) (hr : Rd w w.heap.size 2 A n (l.flatMap Kp.cells)) (hr' : Rd w w.heap.size 2 A' n (l.flatMap Kp.cells)) (hl : l.length = n) (hn : n ≤ 9223372036854775807) :
    Calls Try.prog 15 #[.slice A n c, .slice A' n c'] w (Ret w (.bool true)) := by
  have HR := Lib.hid hr
  have HR' := Lib.hid hr'
  have HL := Lib.hid hl
  clear hr hr' hl
  go_enter Try.func15, Try.ntmps15
  go_wp2
  go_loopg [13] n (fun g i wr => ∃ k : Nat, k ≤ n ∧ g = n - k ∧ i = .int .i64 k ∧ Below w.heap.size w wr)
  case atStart => exact ⟨0, Nat.zero_le _, rfl, rfl, Below.refl _ _⟩
  case round =>
    obtain ⟨k, hk, rfl, rfl, hB⟩ := hrel
    by_cases hlt : k < n
    · obtain ⟨b, off, rfl, hb, hc⟩ := HR.out.at_ Kp.len (by omega)
      obtain ⟨b', off', rfl, hb', hc'⟩ := HR'.out.at_ Kp.len (by omega)
      obtain ⟨y, hy⟩ : ∃ y, l[k]? = some y := ⟨_, List.getElem?_eq_getElem (by rw [HL.out]; exact hlt)⟩
      have d1 := Kp.facts hb hB hc hy
      have d2 := Kp.facts hb' hB hc' hy
      have E := neqKp y
      have i0 : (0 : Int) ≤ (k : Int) := by omega
      have i1 : (k : Int) < (n : Int) := by omega
      clear hc hc' hy
      go_wp2
      go_quiet (fail)
      go_wp2
      generalize hxw : World.drewN wr _ = xw
      have xh : Below wr.heap.size wr xw := by rw [← hxw]; exact below_drewN (Below.refl _ _) _
      clear hxw
      go_roundg (n - (k + 1))
      case measure => omega
      case rel => exact ⟨k + 1, by omega, rfl, by go_num, hB.trans (xh.mono hB.size)⟩
    · go_wp2
      go_ret
      exact Ret.mk rfl hB

set_option maxRecDepth 100000 in
set_option maxHeartbeats 1600000 in
theorem storePlays_walk (A : Option Addr) (n c : Nat) (l : List Op) (w : World) (hr : Rd w w.heap.size 4 A n (l.flatMap Op.cells)) (hl : l.length = n) (hn : n ≤ 2932031007317) (hsz : ∀ o ∈ l, o.nm.size ≤ maxLen ∧ o.dt.size ≤ maxLen) :
    Calls Try.prog 4 #[.slice A n c] w (Ret w (.bool true)) := by
  obtain ⟨an, D1, C1, hp⟩ := plays_ex l mno [] 0 cnt_no
  have hla : an.length = n := by rw [plays_len hp, hl]
  have HLA := Lib.hid hla
  have cP := Lib.hid (play_any A n c l an D1 C1 w hr hl hn hp hsz)
  have cX := Lib.hid (fun W (hW : Below w.heap.size w W) => xplay_any A n c l an D1 C1 W (hr.later hW) hl hn hp hsz)
  clear hr hl hp hsz hla
  go_enter Try.func4, Try.ntmps4
  go_wp2_with fail
  refine cP.out.mono ?_; rintro en w1 ⟨A1, c1, A2, m, c2, ks, rfl, HLK, HK, hc1, hm, hs1⟩
  have H1 := Lib.hid hs1
  clear hs1 cP
  go_wp2_with fail
  refine (cX.out w1 H1.out.below).mono ?_; rintro en w2 ⟨A3, c3, A4, m4, c4, ks4, rfl, HLK4, HK4, hc3, hm4, hs2⟩
  have hkk : ks4 = ks := kept_one HK4.out HK.out
  subst hkk
  have hmm : m4 = m := by rw [← HLK4.out, HLK.out]
  subst hmm
  have H2 := Lib.hid (H1.out.join hs2)
  clear hs2 cX HK HK4 HLK4 H1
  have cE := Lib.hid (equal_ans A1 A3 n c1 c3 an w2 (H2.out.rd 0 rfl) (H2.out.rd 2 rfl) HLA.out (by omega))
  go_wp2_with fail
  refine cE.out.mono ?_; rintro en w3 ⟨rfl, hb3⟩
  have H3 := Lib.hid (H2.out.later hb3)
  clear hb3 cE H2
  have cE := Lib.hid (equal_kept A2 A4 m4 c2 c4 ks4 w3 (H3.out.rd 1 rfl) (H3.out.rd 3 rfl) HLK.out (by omega))
  go_wp2_with fail
  refine cE.out.mono ?_; rintro en w4 ⟨rfl, hb4⟩
  have HF := Lib.hid (H3.out.later hb4).below
  clear hb4 cE H3
  go_wp2
  go_ret
  exact Ret.mk rfl HF.out

theorem op_cells : Try.prog.cellsOf 61 = 4 := by kernel_rfl
theorem op_bytes : Try.prog.bytesOf 61 = 48 := by kernel_rfl
theorem op_parse {H : Type} {enc : TypeId × Value → H} {w : World} {base : Nat} {spare : Nat → Bool} {held : Bool} (n : Nat) (cs : List Value) (y : DataW H × List MemPlace)
    (h : DataW.trod enc Try.prog w base spare held n 61 cs = some y) : ∃ x : Op, cs = x.cells ∧ (x.nm.size ≤ maxLen ∧ x.dt.size ≤ maxLen) := by
  obtain ⟨hl, m, hf⟩ := parse_fields Try.underlying61 (by kernel_rfl) (by kernel_rfl) h
  obtain ⟨v0, z0, e0, t0⟩ := hf 0 _ rfl
  obtain ⟨v1, z1, e1, t1⟩ := hf 1 _ rfl
  obtain ⟨v2, z2, e2, t2⟩ := hf 2 _ rfl
  obtain ⟨v3, z3, e3, t3⟩ := hf 3 _ rfl
  obtain ⟨a, rfl, _⟩ := parse_int Try.underlying3 t0
  obtain ⟨b, rfl, hb⟩ := parse_string Try.underlying9 t1
  obtain ⟨c, rfl, hc⟩ := parse_string Try.underlying9 t2
  obtain ⟨d, rfl, _⟩ := parse_int Try.underlying3 t3
  match cs, hl with
  | [c0, c1, c2, c3], _ =>
    simp at e0 e1 e2 e3
    subst e0 e1 e2 e3
    exact ⟨⟨a, b, c, d⟩, rfl, hb, hc⟩

set_option maxRecDepth 100000 in
set_option maxHeartbeats 400000 in
theorem storePlays_lifted (os : Os) (started : os.Started) (H : Type) (enc : TypeId × Value → H) :
    ReturnsInHanded {} Try.checked os 4 .any (Rows.storePlaysSpec.pre6 enc Try.prog Try.f4 Rows.storePlaysRow.domain false)
      (Rows.storePlaysSpec.post enc Try.prog Try.f4 false true false false) := by
  refine returnsInHanded_of_change_sized (C := Try.checked) own started (by kernel_rfl) Try.func4
    (ChangeSpec.witness6 (enc := enc) (C := Try.checked) false ⟨#[], #[.slice none 0 0], []⟩ 8 (by kernel_rfl) (by kernel_rfl) (by kernel_rfl) (by kernel_rfl)) ?_
  intro W base args ds gs before hval0 hW hcnd hsz0 _
  have hval : ∀ (j : Nat) t v, Try.f4.params[j]? = some t → args[j]? = some v → Value.okWide Try.prog W .any base t v := hval0
  have hsz : (DataW.weightsEach Try.prog (Try.f4.params.toList ++ Rows.storePlaysSpec.plain.varTypes Try.prog) (ds ++ gs)).all (· ≤ reachBytes) = true := hsz0
  have hW0 := hW
  obtain ⟨p, q, hA0, hV, _, _, _⟩ := hW
  have hA : DataW.TrodAll enc Try.prog W 0 (fun _ => true) true Try.f4.params.toList args.toList ds p := hA0
  rw [Try.params4] at hA hval hsz
  obtain ⟨v0, vs0, d0, ds0, p0, q0, hargs, rfl, rfl, h0, r0⟩ := trodAll_cons hA
  obtain ⟨rfl, rfl, rfl⟩ := trodAll_nil r0
  obtain rfl : args = #[v0] := by cases args; simp_all
  obtain ⟨fu0, hf0⟩ := h0
  obtain ⟨A, n, cap, l, hcs, hl, hnc, hcm, _, hrd, hQ, hd⟩ := open_list Op.cells (fun x => x.nm.size ≤ maxLen ∧ x.dt.size ≤ maxLen) Try.underlying34 op_cells Op.len (by omega) op_parse hf0
  obtain rfl := slice_of hcs (okWide_slice Try.underlying34 (hval 0 _ v0 rfl rfl))
  have hn := reach_of hsz (j := 0) rfl rfl Try.underlying34 op_bytes hd
  refine (storePlays_walk A n cap l W hrd hl (by omega) hQ).mono fun e W' ⟨he, hg⟩ => ⟨_, he, ?_⟩
  exact law_post laidOut Try.underlying4 rfl rfl (by kernel_rfl) (fun xs hx => by
    match xs, hx with
    | [_], _ => rfl) hW0 hg
theorem storePlays_over : Rows.storePlaysRow.holds Try.pinned (OpenSpec.ofChange Rows.storePlaysSpec) :=
  OpenClaim.holds_of_wide 4 Try.f4 rfl rfl rfl rfl rfl rfl rfl ⟨rfl, rfl, rfl, rfl, rfl⟩ rfl rfl rfl rfl rfl (by kernel_rfl) Try.func4 (by kernel_rfl)
    (of_decide_eq_true (by kernel_rfl)) (by unfold Func.isWrapper; first | (rw [if_pos (by decide +kernel)]; kernel_rfl) | (rw [if_neg (by decide +kernel)]; exact ⟨rfl, rfl⟩))
    (fun os started H enc _ => storePlays_lifted os started H enc)
theorem storePlays_holds : Rows.StorePlaysSaid := storePlays_over
end So
end Go.Proofs.Ytelgalhkggnkbab
