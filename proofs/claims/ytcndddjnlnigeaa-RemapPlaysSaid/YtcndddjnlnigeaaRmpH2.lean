/-
  Walk of the reference's HPlay. Conditions: none.
-/
import Derived.Test.YtcndddjnlnigeaaRmpH
import Derived.Test.YtcndddjnlnigeaaSep
namespace Go.Proofs.Ytcndddjnlnigeaa
open Go.RowKit Go.Shelf
set_option linter.unusedVariables false
namespace Rmp

/-- what both plays answer, told by what can be read -/
def RRet2 (w : World) (r : R4) (e : Ending) (w' : World) : Prop := ∃ A1 c1 A c, e = .returned (.tuple #[.slice A1 r.es.length c1, rowV r.at_, .slice A r.nums.length c, .int .i64 r.err]) ∧ Rd w' w'.heap.size 1 A1 r.es.length (r.es.flatMap icell) ∧
  Rd w' w'.heap.size 1 A r.nums.length (r.nums.flatMap icell) ∧ Below w.heap.size w w'
theorem icells_snoc (l : List Int) (x : Int) : l.flatMap icell ++ [.int .i64 x] = (l ++ [x]).flatMap icell := by simp [List.flatMap_append, icell]

set_option maxRecDepth 100000 in
set_option maxHeartbeats 1600000 in
theorem hplay_any (pages : Nat) (hpg : pages ≤ 4096) (A : Option Addr) (n c : Nat) (ops : List Op) (ES lf : List Int) (w : World) (hr : Rd w w.heap.size 2 A n (ops.flatMap Op.cells)) (hops : ops.length = n) (hn : n * 16 ≤ 140737488351232) (hP : Plays pages [] ops ES lf) (hlf : lf.length ≤ pages) (hes : ES.length = ops.length) :
    Calls Try.prog 13 #[.int .i64 (pages : Int), .slice A n c] w (RRet2 w ⟨ES, atL lf, numL pages lf, 0⟩) := by
  obtain ⟨ie, hie, he0, he1, he2⟩ := info_parts errno_info
  obtain ⟨ii, hii, hi0, hi1, hi2⟩ := info_parts int_info
  have HR := Lib.hid hr
  have HP := Lib.hid hops
  have HPL := Lib.hid hP
  have HLF := Lib.hid hlf
  have HES := Lib.hid hes
  clear hr hops hP hlf hes
  have hmf : ∀ (fn : Fn) (first cap : Array Value) (w : World), (Instr.makeFunc fn first cap).run Try.prog w = .ok (.func fn first cap) w := fun _ _ _ _ => rfl
  have i0 : (0 : Int) ≤ (pages : Int) := by omega
  have i1 : (pages : Int) ≤ 4096 := by omega
  go_enter Try.func13, Try.ntmps13
  go_upto_region 8 with (fail)
  have HS0 : Hid (Sep w (((w.alloc (.cells Z16 34)).alloc (.cells Z16 34)).alloc (.cells #[.slice none 0 0] 32))
      [.cells w.heap.size 34 (zero16.flatMap icell), .cells (w.heap.size + 1) 34 (zero16.flatMap icell), .cells (w.heap.size + 1 + 1) 32 [.slice none 0 0], .row 27 1 (.slice none 0 0) 0 [], .row 3 1 (.slice none 0 0) 0 []]) := Lib.hid (by
    have h3 := (((((Sep.nil_ w).new 34 (zero16.flatMap icell)).new 34 (zero16.flatMap icell)).new 32 [.slice none 0 0]).nilRow 27 1 none).nilRow 3 1 none
    simp only [World.size_alloc, List.nil_append, List.cons_append] at h3
    exact h3)
  change Code.wp _ _ _ _ (((w.alloc (.cells Z16 34)).alloc (.cells Z16 34)).alloc (.cells #[.slice none 0 0] 32))
  generalize (((w.alloc (.cells Z16 34)).alloc (.cells Z16 34)).alloc (.cells #[.slice none 0 0] 32)) = wo at HS0 ⊢
  go_loopg [11, 27] n (fun g v i wr => ∃ (k : Nat) (es l : List Int) (A1 : Option Addr) (c1 : Nat) (A9 : Option Addr) (c9 : Nat), k ≤ n ∧ g = n - k ∧ i = .int .i64 k ∧ v = .slice A1 k c1 ∧ Hid (∃ rest, Plays pages l (ops.drop k) rest lf ∧ ES = es ++ rest) ∧
    Sep w wr [.cells w.heap.size 34 (zero16.flatMap icell), .cells (w.heap.size + 1) 34 (zero16.flatMap icell), .cells (w.heap.size + 1 + 1) 32 [.slice A9 l.length c9], .row 27 1 (.slice A1 k c1) k (es.flatMap icell), .row 3 1 (.slice A9 l.length c9) l.length (l.flatMap icell)])
  case atStart => exact ⟨0, [], [], none, 0, none, 0, Nat.zero_le _, rfl, rfl, rfl, Lib.hid ⟨ES, HPL.out, rfl⟩, HS0.out⟩
  case round =>
    clear HS0 wo HPL
    obtain ⟨k, es, l, A1, c1, A9, c9, hk, rfl, rfl, rfl, HF, hs⟩ := hrel
    have HS := Lib.hid hs
    clear hs
    by_cases hlt : k < n
    · obtain ⟨b, off, rfl, hb, hc⟩ := HR.out.at_ Op.len (by omega)
      obtain ⟨x, hx⟩ : ∃ x, ops[k]? = some x := ⟨_, List.getElem?_eq_getElem (by rw [HP.out]; exact hlt)⟩
      have hB := HS.out.below
      obtain ⟨c0, c1'⟩ : wr.cell? ⟨b, off + k * 2, none⟩ = some (.int .i64 x.kind) ∧ wr.cell? ⟨b, off + k * 2 + 1, none⟩ = some (.int .i64 x.n) :=
        ⟨(hB.cell hb).trans (hc k 0 x _ hx rfl), (hB.cell hb).trans (hc k 1 x _ hx rfl)⟩
      obtain ⟨e, l', HW, HOK, HN⟩ : ∃ e l', Hid (Way pages l x e l') ∧ Hid (Ok pages l) ∧ Hid (∃ rest, Plays pages l' (ops.drop (k + 1)) rest lf ∧ ES = (es ++ [e]) ++ rest) := by
        obtain ⟨rest, hp, he⟩ := HF.out
        rw [drop_at hx] at hp
        cases hp with
        | cons h1 h2 h3 h4 => exact ⟨_, _, Lib.hid h1, Lib.hid h2, Lib.hid ⟨_, h4, by rw [he]; simp⟩⟩
      clear hc hx HF hB
      obtain ⟨xk, xn⟩ := x
      simp only at c0 c1'
      have i0 : (0 : Int) ≤ (k : Int) := by omega
      have i1 : (k : Int) < (n : Int) := by omega
      have hlp := HOK.out.len
      have HS1 := Lib.hid (HS.out.new 89 [.int .i64 xk, .int .i64 xn])
      clear HS
      have cF := Lib.hid (find_any (w.heap.size + 1 + 1) A9 c9 l xn _ (HS1.out.blk 2 rfl) (HS1.out.rd 4 rfl) (by omega))
      have c2 := HS1.out.cell 5 rfl (k := 0) rfl
      have c3 := HS1.out.cell 5 rfl (k := 1) rfl
      go_wp2_with (fail)
      refine cF.out.mono ?_
      rintro e1 w1 ⟨rfl, hb1⟩
      have HS2 := Lib.hid (HS1.out.later hb1)
      clear HS1 cF c0 c1' c2 c3 hb1
      generalize wr.heap.size = gx at HS2 ⊢
      have q0 := HS2.out.cell 5 rfl (k := 0) rfl
      have q1 := HS2.out.cell 5 rfl (k := 1) rfl
      have q2 := HS2.out.cell 2 rfl (k := 0) rfl
      have HS3 := Lib.hid (HS2.out.pick [0, 1, 2, 3, 4] (by decide) (by simp))
      go_upto_block 2 with (fail)
      go_cut [14, 15] (fun ev pv wc => ev = .int .i64 e ∧ ∃ A9' c9', Sep w wc [.cells w.heap.size 34 (zero16.flatMap icell), .cells (w.heap.size + 1) 34 (zero16.flatMap icell), .cells (w.heap.size + 1 + 1) 32 [.slice A9' l'.length c9'], .row 27 1 (.slice A1 k c1) k (es.flatMap icell), .row 3 1 (.slice A9' l'.length c9') l'.length (l'.flatMap icell)])
      case first =>
        have hW := HW.out
        clear HW
        cases hW with
        | kind h1 h2 => go_wp2; go_meet; exact ⟨rfl, _, _, HS3.out⟩
        | lo1 h => go_wp2; go_meet; exact ⟨rfl, _, _, HS3.out⟩
        | lo2 h => go_wp2; go_meet; exact ⟨rfl, _, _, HS3.out⟩
        | hi1 h0 h => have h9 : 15 < xn := by omega
                      go_wp2; go_meet; exact ⟨rfl, _, _, HS3.out⟩
        | hi2 h0 h => have h9 : 15 < xn := by omega
                      go_wp2; go_meet; exact ⟨rfl, _, _, HS3.out⟩
        | @full m hm hl =>
          obtain rfl : pages = l.length := hl.symm
          have h7 : ¬ 15 < (m : Int) := by omega
          have h8 : ¬ (m : Int) < 0 := by omega
          go_wp2; go_meet; exact ⟨rfl, _, _, HS3.out⟩
        | @none2 m hm h =>
          have h7 : ¬ 15 < (m : Int) := by omega
          have h8 : ¬ (m : Int) < 0 := by omega
          rw [h]
          go_wp2; go_meet; exact ⟨rfl, _, _, HS3.out⟩
        | @fresh m hm hl h =>
          have h7 : ¬ 15 < (m : Int) := by omega
          have h8 : ¬ (m : Int) < 0 := by omega
          have h6 : ¬ (l.length : Int) = (pages : Int) := by omega
          rw [h]
          have hnew := Rd.of_own (own_new w1 3 #[.int .i64 (m : Int)] 1 1 rfl (by simp [maxLen]) (Nat.le_refl _))
          go_wp2_with (at_builtin; refine wpList_append_sep (HS3.out.alloc _) 4 rfl (.tmp 43) (.tmp 46) 32 rfl 3 ii (.int .i64 0) 1 8 Try.underlying32 hii hi0 hi1 hi2 rfl (by omega) _ l.length _ rfl rfl _ _ 1 1 _ rfl hnew (by simp [Value.oneCell']) (by simp only [maxLen]; omega) (by omega) ?_; intro A2 c2 w2 hc2 hs2 HA; have s1 := HA.cell 2 rfl (k := 0) rfl; have s2 := HA.froz 2 rfl (k := 0); have HA' := Lib.hid HA; clear HA)
          go_meet
          refine ⟨rfl, A2, c2, ?_⟩
          have := HA'.out.set 2 rfl (k := 0) (.slice A2 (l.length + 1) c2)
          rw [← icells_snoc, List.length_append, List.length_singleton]
          exact this
        | @over m p hm hl h hp =>
          have h7 : ¬ 15 < (m : Int) := by omega
          have h8 : ¬ (m : Int) < 0 := by omega
          have h9 : ¬ (p : Int) < 0 := by omega
          have h9' : (0 : Int) ≤ (p : Int) := by omega
          have h6 : ¬ (l.length : Int) = (pages : Int) := by omega
          have hpl := (List.getElem?_eq_some_iff.1 hp).1
          have h10 : (p : Int) < (l.length : Int) := by omega
          rw [h]
          obtain ⟨g9, rfl, hg9, hat⟩ := HS2.out.rowAt 4 rfl (by omega)
          obtain ⟨e1, e2, e3⟩ := hat p
          have e1' := e1 _ (hcell hp)
          have HS4 := Lib.hid (e3 (.int .i64 (-1)))
          clear hat e1 e3 hp h
          go_upto_region 14 with (fail)
          clear q0 q1 q2 e1' e2 HS2 HS3
          generalize w1.setCell ⟨g9, p, none⟩ (.int .i64 (-1)) = w3 at HS4 ⊢
          have q0 := HS4.out.cell 5 rfl (k := 0) rfl
          have q1 := HS4.out.cell 5 rfl (k := 1) rfl
          have q2 := HS4.out.cell 2 rfl (k := 0) rfl
          have hnew := Rd.of_own (own_new w3 3 #[.int .i64 (m : Int)] 1 1 rfl (by simp [maxLen]) (Nat.le_refl _))
          go_wp2_with (at_builtin; refine wpList_append_sep (HS4.out.alloc _) 4 rfl (.tmp 43) (.tmp 46) 32 rfl 3 ii (.int .i64 0) 1 8 Try.underlying32 hii hi0 hi1 hi2 rfl (by omega) _ l.length _ rfl rfl _ _ 1 1 _ rfl hnew (by simp [Value.oneCell']) (by simp only [maxLen]; omega) (by omega) ?_; intro A2 c2 w2 hc2 hs2 HA; have s1 := HA.cell 2 rfl (k := 0) rfl; have s2 := HA.froz 2 rfl (k := 0); have HA' := Lib.hid (HA.pick [0, 1, 2, 3, 4] (by decide) (by simp)); clear HA)
          go_meet
          refine ⟨rfl, A2, c2, ?_⟩
          have := HA'.out.set 2 rfl (k := 0) (.slice A2 (l.length + 1) c2)
          rw [← icells_snoc, List.length_append, List.length_singleton, List.length_set, ← icell_set]
          exact this
        | @trim m p hm h hp =>
          have h7 : ¬ 15 < (m : Int) := by omega
          have h8 : ¬ (m : Int) < 0 := by omega
          have h9 : ¬ (p : Int) < 0 := by omega
          have h9' : (0 : Int) ≤ (p : Int) := by omega
          have hpl := (List.getElem?_eq_some_iff.1 hp).1
          have h10 : (p : Int) < (l.length : Int) := by omega
          rw [h]
          obtain ⟨g9, rfl, hg9, hat⟩ := HS2.out.rowAt 4 rfl (by omega)
          obtain ⟨e1, e2, e3⟩ := hat p
          have e1' := e1 _ (hcell hp)
          have HS4 := Lib.hid (e3 (.int .i64 (-1)))
          clear hat e1 e3 hp h
          go_upto_region 14 with (fail)
          clear q0 q1 q2 e1' e2 HS2 HS3
          generalize w1.setCell ⟨g9, p, none⟩ (.int .i64 (-1)) = w3 at HS4 ⊢
          have q0 := HS4.out.cell 5 rfl (k := 0) rfl
          have q1 := HS4.out.cell 5 rfl (k := 1) rfl
          have q2 := HS4.out.cell 2 rfl (k := 0) rfl
          go_wp2
          go_meet
          refine ⟨rfl, some ⟨g9, 0, none⟩, c9, ?_⟩
          have := HS4.out.pick [0, 1, 2, 3, 4] (by decide) (by simp)
          rw [List.length_set, ← icell_set]
          exact this
      case rest =>
        clear HS2 HS3 q0 q1 q2 hlp HOK HW
        obtain ⟨rfl, A9', c9', hs5⟩ := hcut
        have HS5 := Lib.hid hs5
        clear hs5
        have hnew := Rd.of_own (own_new wc 27 #[.int .i64 e] 1 1 rfl (by simp [maxLen]) (Nat.le_refl _))
        go_wp2_with (at_builtin; refine wpList_append_sep (HS5.out.alloc _) 3 rfl (.tmp 84) (.tmp 86) 33 rfl 27 ie (.int .i64 0) 1 8 Try.underlying33 hie he0 he1 he2 rfl (by omega) _ k _ rfl rfl _ _ 1 1 _ rfl hnew (by simp [Value.oneCell']) (by simp only [maxLen]; omega) (by omega) ?_; intro A2 c2 w2 hc2 hs2 HA)
        go_roundg (n - (k + 1))
        case measure => omega
        case rel => exact ⟨k + 1, es ++ [e], l', A2, c2, A9', c9', by omega, rfl, by go_num, rfl, HN, by rw [← icells_snoc]; exact HA⟩
    · obtain rfl : k = n := by omega
      obtain ⟨rfl, rfl⟩ : ES = es ∧ lf = l := by
        obtain ⟨rest, hp, he⟩ := HF.out
        rw [List.drop_eq_nil_of_le (by rw [HP.out]; omega)] at hp
        cases hp
        exact ⟨by simpa using he, rfl⟩
      clear HF hlt hk
      have HS1 : Hid (Sep w wr [.cells w.heap.size 34 (zero16.flatMap icell), .cells (w.heap.size + 1) 34 ((mk16 (fun i => firstP (i : Int) lf 0) 0 0).flatMap icell), .cells (w.heap.size + 1 + 1) 32 [.slice A9 lf.length c9], .row 27 1 (.slice A1 k c1) k (ES.flatMap icell), .row 3 1 (.slice A9 lf.length c9) lf.length (lf.flatMap icell)]) := Lib.hid (by rw [mk16_zero]; exact HS.out)
      clear HS
      have hlp := HLF.out
      obtain ⟨wo, rfl⟩ : ∃ wo : World, wo = wr := ⟨_, rfl⟩
      go_wp2
      go_loopg [89] 16 (fun g i wr => ∃ m : Nat, m ≤ 16 ∧ g = 16 - m ∧ i = .int .i64 m ∧ Sep w wr [.cells w.heap.size 34 (zero16.flatMap icell), .cells (w.heap.size + 1) 34 ((mk16 (fun i => firstP (i : Int) lf 0) 0 m).flatMap icell), .cells (w.heap.size + 1 + 1) 32 [.slice A9 lf.length c9], .row 27 1 (.slice A1 k c1) k (ES.flatMap icell), .row 3 1 (.slice A9 lf.length c9) lf.length (lf.flatMap icell)])
      case atStart => exact ⟨0, by omega, rfl, rfl, HS1.out⟩
      case round =>
        clear HS1
        obtain ⟨m, hm, rfl, rfl, hs⟩ := hrel
        have HS := Lib.hid hs
        clear hs
        by_cases hlt : m < 16
        · have cF := Lib.hid (find_any (w.heap.size + 1 + 1) A9 c9 lf (m : Int) wr (HS.out.blk 2 rfl) (HS.out.rd 4 rfl) (by omega))
          have hset := Lib.hid (mk16_set (f := fun i => firstP (i : Int) lf 0) (z := 0) hlt)
          have hat := Lib.hid (hcell (mk16_at (f := fun i => firstP (i : Int) lf 0) (z := 0) (k := m) hlt))
          have i0 : (0 : Int) ≤ (m : Int) := by omega
          have i1 : (m : Int) < 16 := by omega
          go_wp2_with (fail)
          refine cF.out.mono ?_
          rintro e1 w1 ⟨rfl, hb1⟩
          have HS2 := Lib.hid (HS.out.later hb1)
          clear HS cF hb1
          have u0 := HS2.out.froz 1 rfl (k := m)
          have u1 := HS2.out.cell 1 rfl hat.out
          have HS3 := Lib.hid (HS2.out.set 1 rfl (k := m) (.int .i64 (firstP (m : Int) lf 0)))
          go_wp2
          go_roundg (16 - (m + 1))
          case measure => omega
          case rel =>
            refine ⟨m + 1, by omega, rfl, by go_num, ?_⟩
            rw [← hset.out, ← icell_set]
            exact HS3.out
        · obtain rfl : m = 16 := by omega
          clear hlt hm
          have HS1 : Hid (Sep w wr [.cells w.heap.size 34 (zero16.flatMap icell), .cells (w.heap.size + 1) 34 ((atL lf).flatMap icell), .cells (w.heap.size + 1 + 1) 32 [.slice A9 lf.length c9], .row 27 1 (.slice A1 k c1) k (ES.flatMap icell), .row 3 1 (.slice A9 lf.length c9) lf.length (lf.flatMap icell)]) := HS
          clear HS
          obtain ⟨wo, rfl⟩ : ∃ wo : World, wo = wr := ⟨_, rfl⟩
          go_wp2
          go_loopg [98] (pages - lf.length) (fun g i wr => ∃ (l : List Int) (A9 : Option Addr) (c9 : Nat), l.length ≤ pages ∧ g = pages - l.length ∧ Hid (numL pages l = numL pages lf) ∧ Sep w wr [.cells w.heap.size 34 (zero16.flatMap icell), .cells (w.heap.size + 1) 34 ((atL lf).flatMap icell), .cells (w.heap.size + 1 + 1) 32 [.slice A9 l.length c9], .row 27 1 (.slice A1 k c1) k (ES.flatMap icell), .row 3 1 (.slice A9 l.length c9) l.length (l.flatMap icell)])
          case atStart => exact ⟨lf, A9, c9, hlp, rfl, Lib.hid rfl, HS1.out⟩
          case round =>
            clear HS1
            obtain ⟨l, A9, c9, hl, rfl, HNL, hs⟩ := hrel
            have HS := Lib.hid hs
            clear hs
            by_cases hlt : l.length < pages
            · have q2 := HS.out.cell 2 rfl (k := 0) rfl
              have q3 : (l.length : Int) < (pages : Int) := by omega
              have hnew := Rd.of_own (own_new wr 3 #[.int .i64 (-1)] 1 1 rfl (by simp [maxLen]) (Nat.le_refl _))
              go_wp2_with (at_builtin; refine wpList_append_sep (HS.out.alloc _) 4 rfl (.tmp 102) (.tmp 103) 32 rfl 3 ii (.int .i64 0) 1 8 Try.underlying32 hii hi0 hi1 hi2 rfl (by omega) _ l.length _ rfl rfl _ _ 1 1 _ rfl hnew (by simp [Value.oneCell']) (by simp only [maxLen]; omega) (by omega) ?_; intro A2 c2 w2 hc2 hs2 HA; have s1 := HA.cell 2 rfl (k := 0) rfl; have s2 := HA.froz 2 rfl (k := 0); have HA' := Lib.hid HA; clear HA)
              go_roundg (pages - (l.length + 1))
              case measure => omega
              case rel =>
                refine ⟨l ++ [-1], A2, c2, by simp; omega, by simp, Lib.hid ?_, ?_⟩
                · rw [← HNL.out, numL, numL, List.append_assoc]
                  congr 1
                  rw [show pages - l.length = (pages - (l ++ [(-1 : Int)]).length) + 1 by simp; omega, List.replicate_succ]
                  rfl
                · have := HA'.out.set 2 rfl (k := 0) (.slice A2 (l.length + 1) c2)
                  rw [← icells_snoc, List.length_append, List.length_singleton]
                  exact this
            · have hle : pages = l.length := by omega
              have HN : Hid (numL pages lf = l) := Lib.hid (by rw [← HNL.out, numL, hle, Nat.sub_self]; simp)
              have q2 := HS.out.cell 2 rfl (k := 0) rfl
              have q3 : ¬ (l.length : Int) < (pages : Int) := by omega
              go_upto_region 33 with (fail)
              have HEK : Hid (ES.length = k) := Lib.hid (by rw [HES.out, HP.out])
              clear q2 q3 HLF HES HP HR hlp HNL hlt hle
              refine wp_region_inv0 (fun a0 L a w' => ∃ x4 x6 x105 x106 x107, a = turn a0 [(4, x4), (6, x6), (7, .int .i64 0), (105, x105), (106, x106), (107, x107)] ∧ (L 0 = true → x105 = .slice A1 k c1) ∧ (L 1 = true → x106 = rowV (atL lf)) ∧ (L 2 = true → x107 = .slice A9 l.length c9) ∧ (L 3 = true → x4 = .slice A1 k c1) ∧ (L 5 = true → x6 = .slice A9 l.length c9) ∧
                Sep w w' [.cells w.heap.size 34 ((if L 4 = true then atL lf else zero16).flatMap icell), .cells (w.heap.size + 1) 34 ((atL lf).flatMap icell), .cells (w.heap.size + 1 + 1) 32 [.slice A9 l.length c9], .row 27 1 (.slice A1 k c1) k (ES.flatMap icell), .row 3 1 (.slice A9 l.length c9) l.length (l.flatMap icell)]) rfl (by kernel_rfl) ?_ ?_ ?_
              · simp only [turn, List.foldl_cons, List.foldl_nil, List.setIfInBounds_toArray, List.set_cons_succ, List.set_cons_zero]
                exact ⟨_, _, _, _, _, rfl, fun h => absurd h (by decide), fun h => absurd h (by decide), fun h => absurd h (by decide), fun h => absurd h (by decide), fun h => absurd h (by decide), HS.out.drew⟩
              · rintro L a w' i o ⟨x4, x6, x105, x106, x107, ha, p0, p1, p2, p3, p5, hS⟩ ho hi he
                simp only [turn, List.foldl_cons, List.foldl_nil, List.setIfInBounds_toArray, List.set_cons_succ, List.set_cons_zero] at ha ⊢
                subst ha
                have cn := hS.cell 2 rfl (k := 0) rfl
                rcases i with _|_|_|_|_|_|_|i
                all_goals cases ho
                all_goals simp [Region.binds] at he
                · refine wpOp_step rfl (fun K hK => ?_)
                  go_simp
                  exact hK _ _ ⟨_, _, _, _, _, rfl, fun _ => rfl, p1, p2, p3, p5, hS⟩
                · refine wpOp_at rfl rfl ?_
                  unfold Oper.wp
                  rw [load_exec (ty := 34) (x := .tmp 8) _ _ w' (rowV (atL lf)) rfl (loadAt_of ((hS.blk 1 rfl).load Try.underlying34 (size16 (atL_len lf))))]
                  exact ⟨_, _, _, _, _, rfl, p0, fun _ => rfl, p2, p3, p5, hS⟩
                · refine wpOp_step rfl (fun K hK => ?_)
                  go_simp
                  exact hK _ _ ⟨_, _, _, _, _, rfl, p0, p1, fun _ => rfl, p3, p5, hS⟩
                · obtain rfl := p0 (by simp [he])
                  refine wpOp_step rfl (fun K hK => ?_)
                  go_simp
                  exact hK _ _ ⟨_, _, _, _, _, rfl, fun _ => rfl, p1, p2, fun _ => rfl, p5, hS⟩
                · obtain rfl := p1 (by simp [he])
                  rw [if_neg (by rw [hi]; decide)] at hS
                  refine wpOp_at rfl rfl ?_
                  refine wp_store_row 34 (.tmp 5) (.tmp 106) rfl w.heap.size ((atL lf).flatMap icell).toArray rfl rfl 34 (zero16.flatMap icell).toArray (hS.blk 0 rfl) (size16' (atL_len lf)) (same16 rfl (atL_len lf)) (icell_one _) ?_
                  exact ⟨_, _, _, _, _, rfl, p0, fun _ => rfl, p2, p3, p5, hS.whole 0 rfl ((atL lf).flatMap icell)⟩
                · obtain rfl := p2 (by simp [he])
                  refine wpOp_step rfl (fun K hK => ?_)
                  go_simp
                  exact hK _ _ ⟨_, _, _, _, _, rfl, (by first | exact p0 | exact fun _ => rfl), (by first | exact p1 | exact fun _ => rfl), (by first | exact p2 | exact fun _ => rfl), (by first | exact p3 | exact fun _ => rfl), (by first | exact p5 | exact fun _ => rfl), hS⟩
                · refine wpOp_step rfl (fun K hK => ?_)
                  go_simp
                  exact hK _ _ ⟨_, _, _, _, _, rfl, (by first | exact p0 | exact fun _ => rfl), (by first | exact p1 | exact fun _ => rfl), (by first | exact p2 | exact fun _ => rfl), (by first | exact p3 | exact fun _ => rfl), (by first | exact p5 | exact fun _ => rfl), hS⟩
              · rintro L a w' ⟨x4, x6, x105, x106, x107, ha, p0, p1, p2, p3, p5, hS⟩ hall
                simp only [turn, List.foldl_cons, List.foldl_nil, List.setIfInBounds_toArray, List.set_cons_succ, List.set_cons_zero] at ha
                subst ha
                obtain rfl := p3 (hall 3 (by decide))
                obtain rfl := p5 (hall 5 (by decide))
                rw [if_pos (hall 4 (by decide))] at hS
                have hld := (hS.blk 0 rfl).load Try.underlying34 (size16 (atL_len lf))
                go_wp2
                refine bodyPost_ret (v := .tuple #[.slice A1 k c1, rowV (atL lf), .slice A9 l.length c9, .int .i64 0]) ?_ rfl ?_
                · simp [results, Try.results13, asAddr, rowV, hld]
                · obtain rfl := HN.out
                  refine ⟨A1, c1, A9, c9, ?_, ?_, hS.rd 4 rfl, hS.below⟩
                  · show _ = Ending.returned (.tuple #[.slice A1 ES.length c1, _, _, _])
                    rw [HEK.out]
                  · show Rd _ _ 1 A1 ES.length _
                    rw [HEK.out]
                    exact hS.rd 3 rfl

set_option maxRecDepth 100000 in
set_option maxHeartbeats 800000 in
theorem hplay_bad (pages : Int) (hpg : pages < 0 ∨ 4096 < pages) (A : Option Addr) (n c : Nat) (w : World) :
    Calls Try.prog 13 #[.int .i64 pages, .slice A n c] w (RRet2 w ⟨[], zero16, [], 2⟩) := by
  have HS : Hid (Sep w ((w.alloc (.cells Z16 34)).alloc (.cells Z16 34)) [.cells w.heap.size 34 (zero16.flatMap icell), .cells (w.heap.size + 1) 34 (zero16.flatMap icell)]) := Lib.hid (by
    have h3 := ((Sep.nil_ w).new 34 (zero16.flatMap icell)).new 34 (zero16.flatMap icell)
    simp only [World.size_alloc, List.nil_append, List.cons_append] at h3
    exact h3)
  have fin : ∀ (a : Act) (w' : World), True := fun _ _ => trivial
  clear fin
  by_cases h1 : pages < 0
  all_goals
    try have h2 : 4096 < pages := by omega
    clear hpg
    go_enter Try.func13, Try.ntmps13
    go_upto_region 3 with (fail)
    change Code.wp _ _ _ _ ((w.alloc (.cells Z16 34)).alloc (.cells Z16 34))
    generalize ((w.alloc (.cells Z16 34)).alloc (.cells Z16 34)) = wo at HS ⊢
    refine wp_region_inv0 (fun a0 L a w' => ∃ x7 x23, a = turn a0 [(4, .slice none 0 0), (6, .slice none 0 0), (7, x7), (23, x23)] ∧ (L 0 = true → x23 = rowV zero16) ∧ (L 4 = true → x7 = .int .i64 2) ∧
      Sep w w' [.cells w.heap.size 34 (zero16.flatMap icell), .cells (w.heap.size + 1) 34 (zero16.flatMap icell)]) rfl (by kernel_rfl) ?_ ?_ ?_
    · simp only [turn, List.foldl_cons, List.foldl_nil, List.setIfInBounds_toArray, List.set_cons_succ, List.set_cons_zero]
      exact ⟨_, _, rfl, fun h => absurd h (by decide), fun h => absurd h (by decide), HS.out.drew⟩
    · rintro L a w' i o ⟨x7, x23, ha, p0, p4, hS⟩ ho hi he
      simp only [turn, List.foldl_cons, List.foldl_nil, List.setIfInBounds_toArray, List.set_cons_succ, List.set_cons_zero] at ha ⊢
      subst ha
      rcases i with _|_|_|_|_|i
      all_goals cases ho
      all_goals simp [Region.binds] at he
      · refine wpOp_at rfl rfl ?_
        unfold Oper.wp
        rw [load_exec (ty := 34) (x := .tmp 8) _ _ w' (rowV zero16) rfl (loadAt_of ((hS.blk 1 rfl).load Try.underlying34 (size16 rfl)))]
        exact ⟨_, _, rfl, fun _ => rfl, p4, hS⟩
      · refine wpOp_step rfl (fun K hK => ?_)
        go_simp
        exact hK _ _ ⟨_, _, rfl, (by first | exact p0 | exact fun _ => rfl), (by first | exact p4 | exact fun _ => rfl), hS⟩
      · obtain rfl := p0 (by simp [he])
        refine wpOp_at rfl rfl ?_
        refine wp_store_row 34 (.tmp 5) (.tmp 23) rfl w.heap.size (zero16.flatMap icell).toArray rfl rfl 34 (zero16.flatMap icell).toArray (hS.blk 0 rfl) (size16' rfl) (same16 rfl rfl) (icell_one _) ?_
        exact ⟨_, _, rfl, fun _ => rfl, p4, hS.whole 0 rfl (zero16.flatMap icell)⟩
      · refine wpOp_step rfl (fun K hK => ?_)
        go_simp
        exact hK _ _ ⟨_, _, rfl, (by first | exact p0 | exact fun _ => rfl), (by first | exact p4 | exact fun _ => rfl), hS⟩
      · refine wpOp_step rfl (fun K hK => ?_)
        go_simp
        exact hK _ _ ⟨_, _, rfl, (by first | exact p0 | exact fun _ => rfl), (by first | exact p4 | exact fun _ => rfl), hS⟩
    · rintro L a w' ⟨x7, x23, ha, p0, p4, hS⟩ hall
      simp only [turn, List.foldl_cons, List.foldl_nil, List.setIfInBounds_toArray, List.set_cons_succ, List.set_cons_zero] at ha
      subst ha
      obtain rfl := p4 (hall 4 (by decide))
      have hld := (hS.blk 0 rfl).load Try.underlying34 (size16 rfl)
      go_wp2
      refine bodyPost_ret (v := .tuple #[.slice none 0 0, rowV zero16, .slice none 0 0, .int .i64 2]) ?_ rfl ?_
      · simp [results, Try.results13, asAddr, rowV, hld]
      · exact ⟨none, 0, none, 0, rfl, Rd.nil_, Rd.nil_, hS.below⟩
end Rmp
end Go.Proofs.Ytcndddjnlnigeaa
