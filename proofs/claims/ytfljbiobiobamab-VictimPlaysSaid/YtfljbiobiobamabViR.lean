/-
  Walks of the reference's GRight and GGreedy. Conditions: none beyond each theorem's own premises.
-/
import Derived.Test.YtfljbiobiobamabViW2
import Derived.Test.YtfljbiobiobamabStbN
namespace Go.Proofs.Ytfljbiobiobamab
open Go.RowKit Go.Shelf
set_option linter.unusedVariables false
namespace Vic

theorem int_info : (Try.prog.info? 3).map (fun i => (i.zero, i.size, i.bytes)) = some (some (.int .i64 0), 1, 8) := by kernel_rfl

set_option maxRecDepth 100000 in
set_option maxHeartbeats 3200000 in
theorem gright_any (A : Option Addr) (n c : Nat) (l : List Fm) (b : Bool) (w : World) (hr : Rd w w.heap.size 3 A n (l.flatMap Fm.cells)) (hl : l.length = n) (hn : n ≤ 9223372036854775807) (hb : b = true ↔ OkL l) :
    Calls Try.prog 15 #[.slice A n c] w (Ret w (.bool b)) := by
  have HR := Lib.hid hr
  have HL := Lib.hid hl
  have HBI := Lib.hid hb
  clear hr hl hb
  obtain ⟨bs, hbs⟩ : ∃ bs, decide ((n : Int) ≤ 4096) = bs := ⟨_, rfl⟩
  have HBS := Lib.hid hbs
  go_enter Try.func15, Try.ntmps15
  go_wp2
  clear hbs
  go_loopg [3, 11] n (fun q v i wr => ∃ (k : Nat) (o : Bool), k ≤ n ∧ q = n - k ∧ v = .bool o ∧ i = .int .i64 k ∧ Hid (o = true ↔ (n ≤ 4096 ∧ ∀ f ∈ l.take k, f.ok)) ∧ Below w.heap.size w wr)
  case atStart => exact ⟨0, bs, Nat.zero_le _, rfl, rfl, rfl, Lib.hid (by rw [← HBS.out, decide_eq_true_eq]; simp; omega), Below.refl _ _⟩
  case round =>
    obtain ⟨k, o, hk, rfl, rfl, rfl, HG, hb⟩ := hrel
    have HB := Lib.hid hb
    clear hb
    by_cases hlt : k < n
    · obtain ⟨b, off, rfl, hb, hc⟩ := HR.out.at_ Fm.len (by omega)
      obtain ⟨f, hf⟩ : ∃ f, l[k]? = some f := ⟨_, List.getElem?_eq_getElem (by rw [HL.out]; exact hlt)⟩
      obtain ⟨q0, q1, q2⟩ := Fm.facts hb HB.out hc hf
      have i0 : (0 : Int) ≤ (k : Int) := by omega
      have i1 : (k : Int) < (n : Int) := by omega
      have HO := Lib.hid hf
      clear hc hf
      obtain ⟨fn, fd, fw⟩ := f
      simp only at q0 q1 q2
      have HBL := Lib.hid (HB.out.alloc HB.out.size (.cells #[.int .i64 fn, .int .i64 fd, .int .i64 fw] 34))
      have HTK : Hid (∀ o2 : Bool, (o2 = true ↔ (o = true ∧ (0 ≤ fn ∧ fn ≤ fd ∧ fd ≤ 4) ∧ 0 ≤ fw ∧ fw ≤ 1048576)) → (o2 = true ↔ (n ≤ 4096 ∧ ∀ f ∈ l.take (k + 1), f.ok))) := Lib.hid (fun o2 h => by
        rw [h, HG.out, List.take_add_one, HO.out]
        constructor
        · rintro ⟨⟨g1, g2⟩, g3⟩
          refine ⟨g1, fun x hx => ?_⟩
          rcases List.mem_append.1 hx with h | h
          · exact g2 x h
          · simp only [Option.toList, List.mem_singleton] at h
            rw [h]
            exact g3
        · rintro ⟨g1, g2⟩
          exact ⟨⟨g1, fun x hx => g2 x (List.mem_append_left _ hx)⟩, g2 ⟨fn, fd, fw⟩ (List.mem_append_right _ (by simp))⟩)
      cases o with
      | false =>
        have HN := Lib.hid (HTK.out false (by simp))
        clear HTK HG
        go_wp2
        go_roundg (n - (k + 1))
        case measure => omega
        case rel => exact ⟨k + 1, false, by omega, rfl, rfl, by go_num, Lib.hid (by simpa using HN.out), HBL.out⟩
      | true =>
        by_cases g1 : fn ≥ 0
        · by_cases g2 : fn ≤ fd
          · by_cases g3 : fd ≤ 4
            · by_cases g4 : fw ≥ 0
              · by_cases g5 : fw ≤ 1048576
                · have HN := Lib.hid (HTK.out true (by simp; omega))
                  clear HTK HG
                  go_wp2
                  go_roundg (n - (k + 1))
                  case measure => omega
                  case rel => exact ⟨k + 1, true, by omega, rfl, rfl, by go_num, Lib.hid (by simpa using HN.out), HBL.out⟩
                · have HN := Lib.hid (HTK.out false (by simp; omega))
                  clear HTK HG
                  go_wp2
                  go_roundg (n - (k + 1))
                  case measure => omega
                  case rel => exact ⟨k + 1, false, by omega, rfl, rfl, by go_num, Lib.hid (by simpa using HN.out), HBL.out⟩
              · have HN := Lib.hid (HTK.out false (by simp; omega))
                clear HTK HG
                go_wp2
                go_roundg (n - (k + 1))
                case measure => omega
                case rel => exact ⟨k + 1, false, by omega, rfl, rfl, by go_num, Lib.hid (by simpa using HN.out), HBL.out⟩
            · have HN := Lib.hid (HTK.out false (by simp; omega))
              clear HTK HG
              go_wp2
              go_roundg (n - (k + 1))
              case measure => omega
              case rel => exact ⟨k + 1, false, by omega, rfl, rfl, by go_num, Lib.hid (by simpa using HN.out), HBL.out⟩
          · have HN := Lib.hid (HTK.out false (by simp; omega))
            clear HTK HG
            go_wp2
            go_roundg (n - (k + 1))
            case measure => omega
            case rel => exact ⟨k + 1, false, by omega, rfl, rfl, by go_num, Lib.hid (by simpa using HN.out), HBL.out⟩
        · have HN := Lib.hid (HTK.out false (by simp; omega))
          clear HTK HG
          go_wp2
          go_roundg (n - (k + 1))
          case measure => omega
          case rel => exact ⟨k + 1, false, by omega, rfl, rfl, by go_num, Lib.hid (by simpa using HN.out), HBL.out⟩
    · have HE : Hid (o = b) := Lib.hid (by
        have h := HG.out
        rw [List.take_of_length_le (by rw [HL.out]; omega)] at h
        have h2 : (o = true) ↔ (b = true) := h.trans ((by unfold OkL; rw [HL.out] : _ ↔ _).trans HBI.out.symm)
        exact Bool.eq_iff_iff.2 h2)
      go_wp2
      go_ret
      exact Ret.mk (bool_eq HE.out) HB.out

/-- the blocks that may be chosen, as far as k -/
def May (l : List Fm) (sp : Int) (k : Nat) (d : List Nat) : Prop := d.Pairwise (· < ·) ∧ ∀ x, x ∈ d ↔ (x < k ∧ Cand l sp x)
theorem May.skip {l : List Fm} {sp : Int} {k : Nat} {d : List Nat} (h : May l sp k d) (hc : ¬ Cand l sp k) : May l sp (k + 1) d := by
  refine ⟨h.1, fun x => ?_⟩
  rw [h.2 x]
  constructor
  · rintro ⟨h1, h2⟩
    exact ⟨by omega, h2⟩
  · rintro ⟨h1, h2⟩
    refine ⟨?_, h2⟩
    rcases Nat.lt_or_ge x k with h3 | h3
    · exact h3
    · obtain rfl : x = k := by omega
      exact absurd h2 hc
theorem May.take {l : List Fm} {sp : Int} {k : Nat} {d : List Nat} (h : May l sp k d) (hc : Cand l sp k) : May l sp (k + 1) (d ++ [k]) := by
  refine ⟨List.pairwise_append.2 ⟨h.1, List.pairwise_singleton _ _, fun x hx y hy => ?_⟩, fun x => ?_⟩
  · rw [List.mem_singleton] at hy
    subst hy
    exact ((h.2 x).1 hx).1
  · rw [List.mem_append, h.2 x, List.mem_singleton]
    constructor
    · rintro (⟨h1, h2⟩ | rfl)
      · exact ⟨by omega, h2⟩
      · exact ⟨by omega, hc⟩
    · rintro ⟨h1, h2⟩
      rcases Nat.lt_or_ge x k with h3 | h3
      · exact .inl ⟨h3, h2⟩
      · exact .inr (by omega)
theorem May.len {l : List Fm} {sp : Int} {k : Nat} {d : List Nat} (h : May l sp k d) : d.length ≤ k := by
  have h1 : (List.range k).Nodup := List.nodup_range
  have h2 : d.Nodup := h.1.imp fun h => by omega
  have := h2.length_le_of_subset (l₂ := List.range k) (fun x hx => List.mem_range.2 ((h.2 x).1 hx).1)
  simpa using this

set_option maxRecDepth 100000 in
set_option maxHeartbeats 6400000 in
theorem ggreedy_any (A : Option Addr) (n c : Nat) (l : List Fm) (sp : Int) (w : World) (hr : Rd w w.heap.size 3 A n (l.flatMap Fm.cells)) (hl : l.length = n) (hn : n ≤ 9223372036854775807) :
    Calls Try.prog 13 #[.slice A n c, .int .i64 sp] w (fun e w' => ∃ k er : Int, e = .returned (.tuple #[.int .i64 k, .int .i64 er]) ∧ Way l sp k er ∧ Below w.heap.size w w') := by
  obtain ⟨ti, hti, t0, t1, t2⟩ := info_parts int_info
  have hS0 : Hid (Sep w (w.alloc (.cells #[.slice A n c] 28)) [boxI w.heap.size A n c]) := Lib.hid ((Sep.nil_ w).new 28 [.slice A n c])
  have HR := Lib.hid hr
  have HL := Lib.hid hl
  have cG := Lib.hid (fun (b : Bool) (hb : b = true ↔ OkL l) (W : World) (hW : Below w.heap.size w W) => gright_any A n c l b W (hr.later hW) hl hn hb)
  clear hr hl
  have hmf : ∀ (fn : Fn) (first cap : Array Value) (w : World), (Instr.makeFunc fn first cap).run Try.prog w = .ok (.func fn first cap) w := fun _ _ _ _ => rfl
  by_cases hok : OkL l
  · have HOK := Lib.hid hok
    have cR := Lib.hid (cG.out true (by simp [hok]) _ hS0.out.below)
    by_cases hsp : sp < 1 ∨ sp > 1048576
    · have HW := Lib.hid (Way.range hok hsp)
      rcases hsp with hsp | hsp
      · clear hok cG
        go_enter Try.func13, Try.ntmps13
        go_upto_region 1 with (fail)
        have b0 := hS0.out.cell 0 rfl (k := 0) rfl
        generalize w.alloc (.cells #[.slice A n c] 28) = w1 at hS0 cR b0 ⊢
        generalize w.heap.size = gl at b0 ⊢
        go_wp2_with fail
        refine cR.out.mono ?_; rintro en w2 ⟨rfl, hb2⟩
        have HB2 := Lib.hid (hS0.out.below.trans (hb2.mono hS0.out.below.size))
        clear hb2 cR b0
        go_wp2
        go_ret2
        exact ⟨0, 2, rfl, HW.out, HB2.out⟩
      · by_cases hsp2 : sp < 1
        · omega
        clear hok cG
        go_enter Try.func13, Try.ntmps13
        go_upto_region 1 with (fail)
        have b0 := hS0.out.cell 0 rfl (k := 0) rfl
        generalize w.alloc (.cells #[.slice A n c] 28) = w1 at hS0 cR b0 ⊢
        generalize w.heap.size = gl at b0 ⊢
        go_wp2_with fail
        refine cR.out.mono ?_; rintro en w2 ⟨rfl, hb2⟩
        have HB2 := Lib.hid (hS0.out.below.trans (hb2.mono hS0.out.below.size))
        clear hb2 cR b0
        go_wp2
        go_ret2
        exact ⟨0, 2, rfl, HW.out, HB2.out⟩
    · have HSP := Lib.hid hsp
      have hsp1 : ¬ sp < 1 := by omega
      have hsp2 : ¬ sp > 1048576 := by omega
      have hn4 : n ≤ 4096 := by rw [← HL.out]; exact hok.1
      clear hok cG hsp
      go_enter Try.func13, Try.ntmps13
      go_upto_region 1 with (fail)
      have b0 := hS0.out.cell 0 rfl (k := 0) rfl
      generalize w.alloc (.cells #[.slice A n c] 28) = w1 at hS0 cR b0 ⊢
      generalize w.heap.size = gl at hS0 b0 ⊢
      go_wp2_with fail
      refine cR.out.mono ?_; rintro en w2 ⟨rfl, hb2⟩
      have HS1 : Hid (Sep w w2 [sR none 0 0 [], boxI gl A n c]) := Lib.hid (((hS0.out.later hb2).nilRow 3 1 none).pick [1, 0] (by decide) (by simp))
      clear hb2 cR hS0 b0
      have b0 := HS1.out.cell 1 rfl (k := 0) rfl
      go_upto_region 7 with (fail)
      clear b0
      go_loopg [6, 23] n (fun q v i wr => ∃ (k : Nat) (d : List Nat) (A6 : Option Addr) (c6 : Nat), k ≤ n ∧ q = n - k ∧ v = .slice A6 d.length c6 ∧ i = .int .i64 k ∧ Hid (May l sp k d) ∧ Sep w wr [sR A6 d.length c6 d, boxI gl A n c])
      case atStart => exact ⟨0, [], none, 0, Nat.zero_le _, rfl, rfl, rfl, Lib.hid ⟨List.Pairwise.nil, by simp⟩, HS1.out⟩
      case round =>
        clear HS1
        obtain ⟨k, d, A6, c6, hk, rfl, rfl, rfl, HM, hs⟩ := hrel
        have HS := Lib.hid hs
        clear hs
        by_cases hlt : k < n
        · have HB := Lib.hid HS.out.below
          obtain ⟨b, off, rfl, hb, hc⟩ := HR.out.at_ Fm.len (by omega)
          obtain ⟨f, hf⟩ : ∃ f, l[k]? = some f := ⟨_, List.getElem?_eq_getElem (by rw [HL.out]; exact hlt)⟩
          obtain ⟨q0, q1, q2⟩ := Fm.facts hb HB.out hc hf
          have i0 : (0 : Int) ≤ (k : Int) := by omega
          have i1 : (k : Int) < (n : Int) := by omega
          have HO := Lib.hid hf
          clear hc hf
          obtain ⟨fn, fd, fw⟩ := f
          simp only at q0 q1 q2
          have HBL := Lib.hid (HB.out.alloc HB.out.size (.cells #[.int .i64 fn, .int .i64 fd, .int .i64 fw] 34))
          have HS1 : Hid (Sep w (wr.alloc (.cells #[.int .i64 fn, .int .i64 fd, .int .i64 fw] 34)) [sR A6 d.length c6 d, boxI gl (some ⟨b, off, none⟩) n c, .cells wr.heap.size 34 [.int .i64 fn, .int .i64 fd, .int .i64 fw]]) := Lib.hid (HS.out.new 34 [.int .i64 fn, .int .i64 fd, .int .i64 fw])
          go_upto_region 9 with (fail)
          generalize wr.alloc (.cells #[.int .i64 fn, .int .i64 fd, .int .i64 fw] 34) = wo at HS1 HBL ⊢
          generalize wr.heap.size = gx at HS1 ⊢
          have b0 := HS1.out.cell 1 rfl (k := 0) rfl
          have f1 := HS1.out.cell 2 rfl (k := 1) rfl
          obtain ⟨o4, ho4⟩ : ∃ o4, (fd == 4) = o4 := ⟨_, rfl⟩
          have HO4 : Hid (o4 = true ↔ fd = 4) := Lib.hid (by rw [← ho4]; simp)
          have hw0 := (HOK.out.2 _ (List.mem_of_getElem? HO.out)).2
          obtain ⟨hw0, hw1⟩ := hw0
          simp only at hw0 hw1
          clear HBL q0 q1 q2 HB
          go_upto_region 11 with (fail)
          clear b0 f1 ho4
          go_loopg [9, 33] n (fun q v i wr => ∃ (m : Nat) (o : Bool), m ≤ n ∧ q = n - m ∧ v = .bool o ∧ i = .int .i64 m ∧ Hid (o = true ↔ (fd = 4 ∧ ∀ g ∈ l.take m, fw < g.we + sp)) ∧ Sep w wr [sR A6 d.length c6 d, boxI gl (some ⟨b, off, none⟩) n c, .cells gx 34 [.int .i64 fn, .int .i64 fd, .int .i64 fw]])
          case atStart => exact ⟨0, o4, Nat.zero_le _, rfl, rfl, rfl, Lib.hid (by rw [HO4.out]; simp), HS1.out⟩
          case round =>
            clear HS1 HO4
            obtain ⟨m, o, hm, rfl, rfl, rfl, HG, hs⟩ := hrel
            have HS := Lib.hid hs
            clear hs
            have f2 := HS.out.cell 2 rfl (k := 2) rfl
            by_cases hlt2 : m < n
            · obtain ⟨b', off', e', hb', hc'⟩ := HR.out.at_ Fm.len (by omega)
              cases e'
              obtain ⟨y, hy⟩ : ∃ y, l[m]? = some y := ⟨_, List.getElem?_eq_getElem (by rw [HL.out]; exact hlt2)⟩
              obtain ⟨p0, p1, p2⟩ := Fm.facts hb' HS.out.below hc' hy
              have j0 : (0 : Int) ≤ (m : Int) := by omega
              have j1 : (m : Int) < (n : Int) := by omega
              have hyw := (HOK.out.2 _ (List.mem_of_getElem? hy)).2
              have HY := Lib.hid hy
              clear hc' hy
              obtain ⟨yn, yd, yw⟩ := y
              simp only at p0 p1 p2 hyw
              obtain ⟨hy0, hy1⟩ := hyw
              have HS2 : Hid (Sep w (wr.alloc (.cells #[.int .i64 yn, .int .i64 yd, .int .i64 yw] 34)) [sR A6 d.length c6 d, boxI gl (some ⟨b, off, none⟩) n c, .cells gx 34 [.int .i64 fn, .int .i64 fd, .int .i64 fw]]) := Lib.hid (HS.out.alloc _)
              have f2a := HS2.out.cell 2 rfl (k := 2) rfl
              have HTK : Hid (∀ o2 : Bool, (o2 = true ↔ (o = true ∧ fw < yw + sp)) → (o2 = true ↔ (fd = 4 ∧ ∀ g ∈ l.take (m + 1), fw < g.we + sp))) := Lib.hid (fun o2 h => by
                rw [h, HG.out, List.take_add_one, HY.out]
                constructor
                · rintro ⟨⟨g1, g2⟩, g3⟩
                  refine ⟨g1, fun x hx => ?_⟩
                  rcases List.mem_append.1 hx with h | h
                  · exact g2 x h
                  · simp only [Option.toList, List.mem_singleton] at h
                    rw [h]
                    exact g3
                · rintro ⟨g1, g2⟩
                  exact ⟨⟨g1, fun x hx => g2 x (List.mem_append_left _ hx)⟩, g2 ⟨yn, yd, yw⟩ (List.mem_append_right _ (by simp))⟩)
              cases o with
              | false =>
                have HN := Lib.hid (HTK.out false (by simp))
                clear HTK HG
                go_wp2
                go_roundg (n - (m + 1))
                case measure => omega
                case rel => exact ⟨m + 1, false, by omega, rfl, rfl, by go_num, Lib.hid (by simpa using HN.out), HS2.out⟩
              | true =>
                by_cases g1 : fw < yw + sp
                · have HN := Lib.hid (HTK.out true (by simp; omega))
                  clear HTK HG
                  go_wp2
                  go_roundg (n - (m + 1))
                  case measure => omega
                  case rel => exact ⟨m + 1, true, by omega, rfl, rfl, by go_num, Lib.hid (by simpa using HN.out), HS2.out⟩
                · have HN := Lib.hid (HTK.out false (by simp; omega))
                  clear HTK HG
                  go_wp2
                  go_roundg (n - (m + 1))
                  case measure => omega
                  case rel => exact ⟨m + 1, false, by omega, rfl, rfl, by go_num, Lib.hid (by simpa using HN.out), HS2.out⟩
            · have HCA : Hid (o = true ↔ Cand l sp k) := Lib.hid (by
                have h := HG.out
                rw [List.take_of_length_le (by rw [HL.out]; omega)] at h
                rw [h]
                unfold Cand
                rw [fAt_eq HO.out]
                exact ⟨fun h => ⟨by rw [HL.out]; exact hlt, h⟩, fun h => h.2⟩)
              have hml := HM.out.len
              clear HG
              cases o with
              | false =>
                have HN := Lib.hid (HM.out.skip (fun h => absurd (HCA.out.2 h) (by decide)))
                go_wp2
                go_roundg (n - (k + 1))
                case measure => omega
                case rel => exact ⟨k + 1, d, A6, c6, by omega, rfl, rfl, by go_num, HN, HS.out.pick [0, 1] (by decide) (by simp)⟩
              | true =>
                have HN := Lib.hid (HM.out.take (HCA.out.1 rfl))
                have hnew := Lib.hid (Rd.of_own (own_new wr 3 #[.int .i64 (k : Int)] 1 1 rfl (by simp [maxLen]) (Nat.le_refl _)))
                obtain ⟨N, hN⟩ : ∃ N, N = d.length := ⟨_, rfl⟩
                have HNN := Lib.hid hN
                rw [← hN] at HS hml ⊢
                clear hN f2
                go_wp2_with (at_builtin; refine wpList_append_sep (HS.out.alloc _) 0 rfl (.tmp 49) (.tmp 51) 37 rfl 3 ti (.int .i64 0) 1 8 Try.underlying37 hti t0 t1 t2 rfl (by omega) _ N _ rfl rfl _ _ 1 1 _ rfl hnew.out (by simp [Value.oneCell']) (by simp only [maxLen]; omega) (by omega) ?_; intro A7 c7 w7 hc7 hs7 H7'; have H7 := Lib.hid H7'; clear H7')
                go_roundg (n - (k + 1))
                case measure => omega
                case rel =>
                  refine ⟨k + 1, d ++ [k], A7, c7, by omega, rfl, by rw [List.length_append, ← HNN.out]; rfl, by go_num, HN, ?_⟩
                  have e : (d ++ [k]).length = N + 1 := by rw [List.length_append, ← HNN.out]; rfl
                  rw [e]
                  have h := H7.out.pick [0, 1] (by decide) (by simp)
                  unfold sR
                  rw [List.flatMap_append]
                  exact h
        · obtain rfl : k = n := by omega
          have hml := HM.out.len
          rcases Nat.eq_zero_or_pos d.length with h0 | hpos
          · have hd0 := List.eq_nil_of_length_eq_zero h0
            subst hd0
            have HW := Lib.hid (Way.none HOK.out HSP.out (fun j hj => absurd ((HM.out.2 j).2 ⟨by rw [← HL.out]; exact hj.1, hj⟩) (by simp)))
            have HB := Lib.hid HS.out.below
            clear HS HM hml h0
            go_wp2
            go_ret2
            exact ⟨0, 3, rfl, HW.out, HB.out⟩
          · obtain ⟨N, hN⟩ : ∃ N, N = d.length := ⟨_, rfl⟩
            rw [← hN] at HS hml hpos ⊢
            have hz : ((N : Int) == 0) = false := by simp; omega
            have cS := Lib.hid (sortStable_any A6 A N c6 k c gl l d [] w wr ⟨HR.out, HL.out, HOK.out.2⟩ HS.out hN.symm (by omega) (HM.out.1.imp fun h => cnd_lt l h) (fun x hx => ((HM.out.2 x).1 hx).1))
            unfold cmpF at cS
            have b0 := HS.out.cell 1 rfl (k := 0) rfl
            have HNN := Lib.hid hN
            clear hN
            go_wp2_with fail
            refine cS.out.mono ?_; rintro en w5 ⟨rfl, t, ht, htp, hs5⟩
            have htl := htp.length_eq
            rw [← HNN.out] at htl
            obtain ⟨t0, t', rfl⟩ : ∃ t0 t', t = t0 :: t' := by
              cases t with
              | nil => simp at htl; omega
              | cons a t => exact ⟨a, t, rfl⟩
            obtain ⟨g6, rfl, _, hat⟩ := hs5.rowAt 0 rfl (by omega)
            have d0 : w5.cell? ⟨g6, 0, none⟩ = some (.int .i64 (t0 : Int)) := (hat 0).1 _ (ncell_at (l := t0 :: t') (k := 0) rfl)
            have HB := Lib.hid hs5.below
            have hm0 := (HM.out.2 t0).1 (htp.mem_iff.1 (by simp))
            have HW := Lib.hid (Way.some t0 HOK.out HSP.out hm0.2 (fun j hj => by
              have hjt := htp.mem_iff.2 ((HM.out.2 j).2 ⟨by rw [← HL.out]; exact hj.1, hj⟩)
              rcases List.mem_cons.1 hjt with rfl | hjt
              · exact (le_ord l).refl _
              · exact (List.pairwise_cons.1 ht).1 j hjt))
            have i1 : (0 : Int) < (N : Int) := by omega
            clear ht htp hs5 hat hm0 htl HS HM b0 cS hz
            go_wp2
            go_ret2
            exact ⟨(t0 : Int), 0, rfl, HW.out, HB.out⟩
  · have cR := Lib.hid (cG.out false (by simp [hok]) _ hS0.out.below)
    have HW := Lib.hid (Way.form (sp := sp) hok)
    clear hok cG
    go_enter Try.func13, Try.ntmps13
    go_upto_region 1 with (fail)
    have b0 := hS0.out.cell 0 rfl (k := 0) rfl
    generalize w.alloc (.cells #[.slice A n c] 28) = w1 at hS0 cR b0 ⊢
    generalize w.heap.size = gl at b0 ⊢
    go_wp2_with fail
    refine cR.out.mono ?_; rintro en w2 ⟨rfl, hb2⟩
    have HB2 := Lib.hid (hS0.out.below.trans (hb2.mono hS0.out.below.size))
    clear hb2 cR b0
    go_wp2
    go_ret2
    exact ⟨0, 1, rfl, HW.out, HB2.out⟩
end Vic
end Go.Proofs.Ytfljbiobiobamab
