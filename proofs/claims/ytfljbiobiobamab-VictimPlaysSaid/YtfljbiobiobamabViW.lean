/-
  Walks of victim.Right, check, least and Spread. Conditions: none beyond each theorem's own premises.
-/
import Derived.Test.YtfljbiobiobamabViM
import Derived.Deep.MidRow
namespace Go.Proofs.Ytfljbiobiobamab
open Go.RowKit Go.Shelf
set_option linter.unusedVariables false
namespace Vic

set_option maxRecDepth 100000 in
set_option maxHeartbeats 1600000 in
theorem wrong_any (f : Fm) (b : Bool) (w : World) (hb : b = true ↔ ¬ f.ok) : Calls Try.prog 40 #[.agg #[.int .i64 f.nd, .int .i64 f.dn, .int .i64 f.we]] w (Ret w (.bool b)) := by
  obtain ⟨nd, dn, we⟩ := f
  unfold Fm.ok at hb
  simp only at hb ⊢
  have HB := Lib.hid hb
  have hbl : Below w.heap.size w (w.alloc (.cells #[.int .i64 nd, .int .i64 dn, .int .i64 we] 34)) := (Below.refl _ _).alloc (Nat.le_refl _) _
  have f0 := (Blk.new w 34 [.int .i64 nd, .int .i64 dn, .int .i64 we]).cell (k := 0) rfl
  have f1 := (Blk.new w 34 [.int .i64 nd, .int .i64 dn, .int .i64 we]).cell (k := 1) rfl
  have f2 := (Blk.new w 34 [.int .i64 nd, .int .i64 dn, .int .i64 we]).cell (k := 2) rfl
  have HBL := Lib.hid hbl
  clear hb hbl
  go_enter Try.func40, Try.ntmps40
  go_upto_region 1 with (fail)
  generalize w.alloc (.cells #[.int .i64 nd, .int .i64 dn, .int .i64 we] 34) = w1 at f0 f1 f2 HBL ⊢
  generalize w.heap.size = gx at f0 f1 f2 ⊢
  by_cases h1 : dn < 0
  · obtain rfl : b = true := HB.out.2 (by omega)
    go_wp2
    go_ret
    exact Ret.mk rfl HBL.out
  by_cases h2 : dn > 4
  · obtain rfl : b = true := HB.out.2 (by omega)
    go_wp2
    go_ret
    exact Ret.mk rfl HBL.out
  by_cases h3 : nd < 0
  · obtain rfl : b = true := HB.out.2 (by omega)
    go_wp2
    go_ret
    exact Ret.mk rfl HBL.out
  by_cases h4 : nd > dn
  · obtain rfl : b = true := HB.out.2 (by omega)
    go_wp2
    go_ret
    exact Ret.mk rfl HBL.out
  by_cases h5 : we < 0
  · obtain rfl : b = true := HB.out.2 (by omega)
    go_wp2
    go_ret
    exact Ret.mk rfl HBL.out
  by_cases h6 : we > 1048576
  · obtain rfl : b = true := HB.out.2 (by omega)
    go_wp2
    go_ret
    exact Ret.mk rfl HBL.out
  · obtain rfl : b = false := by
      cases b with
      | false => rfl
      | true => exact absurd (HB.out.1 rfl) (fun h => h (by omega))
    go_wp2
    go_ret
    exact Ret.mk rfl HBL.out

abbrev wrongF : Value := .func (.func 40) #[] #[]
set_option maxRecDepth 100000 in
set_option maxHeartbeats 1600000 in
theorem index_any (A : Option Addr) (n c : Nat) (l : List Fm) (w : World) (hr : Rd w w.heap.size 3 A n (l.flatMap Fm.cells)) (hl : l.length = n) (hn : n ≤ 9223372036854775807) :
    Calls Try.prog 54 #[.slice A n c, wrongF] w (fun e w' => ∃ out : Int, e = .returned (.int .i64 out) ∧ (0 ≤ out ↔ ∃ f ∈ l, ¬ f.ok) ∧ Below w.heap.size w w') := by
  have HR := Lib.hid hr
  have HL := Lib.hid hl
  have eg := enters_of Try.func40 (by kernel_rfl) rfl
  clear hr hl
  go_enter Try.func54, Try.ntmps54
  go_wp2
  go_loopg [8] n (fun q i wr => ∃ (k : Nat), k ≤ n ∧ q = n - k ∧ i = .int .i64 k ∧ Hid (∀ f ∈ l.take k, f.ok) ∧ Below w.heap.size w wr)
  case atStart => exact ⟨0, Nat.zero_le _, rfl, rfl, Lib.hid (by simp), Below.refl _ _⟩
  case round =>
    obtain ⟨k, hk, rfl, rfl, HG, hb⟩ := hrel
    have HB := Lib.hid hb
    clear hb
    by_cases hlt : k < n
    · obtain ⟨b, off, rfl, hb, hc⟩ := HR.out.at_ Fm.len (by omega)
      obtain ⟨f, hf⟩ : ∃ f, l[k]? = some f := ⟨_, List.getElem?_eq_getElem (by rw [HL.out]; exact hlt)⟩
      obtain ⟨q0, q1, q2⟩ := Fm.facts hb HB.out hc hf
      have i0 : (0 : Int) ≤ (k : Int) := by omega
      have i1 : (k : Int) < (n : Int) := by omega
      have HO := Lib.hid hf
      clear hc hf
      by_cases hg : f.ok
      · have cB := Lib.hid (wrong_any f false wr (by simp [hg]))
        have HGG := Lib.hid hg
        clear hg
        go_wp2_with fail
        refine cB.out.mono ?_; rintro en w1 ⟨rfl, hb1⟩
        have B1 := Lib.hid (HB.out.trans (hb1.mono HB.out.size))
        go_wp2
        go_roundg (n - (k + 1))
        case measure => omega
        case rel =>
          refine ⟨k + 1, by omega, rfl, by go_num, Lib.hid (fun x hx => ?_), B1.out⟩
          rw [List.take_add_one, HO.out] at hx
          rcases List.mem_append.1 hx with h | h
          · exact HG.out x h
          · simp only [Option.toList, List.mem_singleton] at h
            rw [h]
            exact HGG.out
      · have cB := Lib.hid (wrong_any f true wr (by simp [hg]))
        have HGG := Lib.hid hg
        clear hg
        go_wp2_with fail
        refine cB.out.mono ?_; rintro en w1 ⟨rfl, hb1⟩
        have B1 := Lib.hid (HB.out.trans (hb1.mono HB.out.size))
        go_wp2
        go_ret
        exact ⟨(k : Int), rfl, ⟨fun _ => ⟨f, List.mem_of_getElem? HO.out, HGG.out⟩, fun _ => by omega⟩, B1.out⟩
    · go_wp2
      go_ret
      refine ⟨-1, rfl, ⟨fun h => absurd h (by decide), fun ⟨o, ho, hno⟩ => absurd (HG.out o ?_) hno⟩, HB.out⟩
      rw [List.take_of_length_le (by rw [HL.out]; omega)]
      exact ho
set_option maxRecDepth 100000 in
set_option maxHeartbeats 1600000 in
theorem contains_any (A : Option Addr) (n c : Nat) (l : List Fm) (b : Bool) (w : World) (hr : Rd w w.heap.size 3 A n (l.flatMap Fm.cells)) (hl : l.length = n) (hn : n ≤ 9223372036854775807) (hb : b = true ↔ ∃ f ∈ l, ¬ f.ok) :
    Calls Try.prog 39 #[.slice A n c, wrongF] w (Ret w (.bool b)) := by
  have cI := Lib.hid (index_any A n c l w hr hl hn)
  have HB := Lib.hid hb
  clear hr hl hb
  go_enter Try.func39, Try.ntmps39
  go_wp2_with fail
  refine cI.out.mono ?_; rintro en w1 ⟨out, rfl, ho, hb1⟩
  have HO := Lib.hid ho
  have HB1 := Lib.hid hb1
  clear ho hb1
  cases b with
  | true =>
    have h0 : (0 : Int) ≤ out := HO.out.2 (HB.out.1 rfl)
    go_wp2
    go_ret
    exact Ret.mk rfl HB1.out
  | false =>
    have h0 : ¬ (0 : Int) ≤ out := fun h => absurd (HB.out.2 (HO.out.1 h)) (by decide)
    go_wp2
    go_ret
    exact Ret.mk (bool_eq (decide_eq_false (by omega))) HB1.out

set_option maxRecDepth 100000 in
set_option maxHeartbeats 1600000 in
theorem vright_any (A : Option Addr) (n c : Nat) (l : List Fm) (b : Bool) (w : World) (hr : Rd w w.heap.size 3 A n (l.flatMap Fm.cells)) (hl : l.length = n) (hn : n ≤ 9223372036854775807) (hb : b = true ↔ OkL l) :
    Calls Try.prog 14 #[.slice A n c] w (Ret w (.bool b)) := by
  by_cases h4 : n ≤ 4096
  · have hcb : (!b) = true ↔ ∃ f ∈ l, ¬ f.ok := by
      unfold OkL at hb
      cases b with
      | true =>
        have h1 := (hb.1 rfl).2
        simp only [Bool.not_true, Bool.false_eq_true, false_iff]
        rintro ⟨f, hf, hn⟩
        exact hn (h1 f hf)
      | false =>
        simp only [Bool.not_false, true_iff]
        refine Classical.byContradiction fun hno => ?_
        exact absurd (hb.2 ⟨by omega, fun f hf => Classical.byContradiction fun hnf => hno ⟨f, hf, hnf⟩⟩) (by decide)
    have cC := Lib.hid (contains_any A n c l (!b) w hr hl hn hcb)
    have h5 : (n : Int) ≤ 4096 := by omega
    clear hr hl hb hcb
    go_enter Try.func14, Try.ntmps14
    go_wp2_with fail
    refine cC.out.mono ?_; rintro en w1 ⟨rfl, hb1⟩
    have HB1 := Lib.hid hb1
    clear cC hb1
    go_wp2
    go_ret
    exact Ret.mk (bool_eq (by simp)) HB1.out
  · have h5 : ¬ (n : Int) ≤ 4096 := by omega
    obtain rfl : b = false := by
      cases b with
      | false => rfl
      | true => exact absurd (hb.1 rfl).1 (by omega)
    clear hr hl hb
    go_enter Try.func14, Try.ntmps14
    go_wp2
    go_ret
    exact Ret.mk rfl (Below.refl _ _)

/-- what check answers -/
def chkE (l : List Fm) (sp : Int) : Int := if OkL l then (if sp < 1 ∨ sp > 1048576 then 2 else 0) else 1
set_option maxRecDepth 100000 in
set_option maxHeartbeats 1600000 in
theorem vcheck_any (A : Option Addr) (n c : Nat) (l : List Fm) (sp : Int) (w : World) (hr : Rd w w.heap.size 3 A n (l.flatMap Fm.cells)) (hl : l.length = n) (hn : n ≤ 9223372036854775807) :
    Calls Try.prog 35 #[.slice A n c, .int .i64 sp] w (Ret w (.int .i64 (chkE l sp))) := by
  obtain ⟨e, he⟩ : ∃ e, e = chkE l sp := ⟨_, rfl⟩
  rw [← he]
  unfold chkE at he
  by_cases h1 : OkL l
  · rw [if_pos h1] at he
    have cR := Lib.hid (vright_any A n c l true w hr hl hn (by simp [h1]))
    by_cases h2 : sp < 1
    · rw [if_pos (.inl h2)] at he
      subst he
      clear hr hl h1
      go_enter Try.func35, Try.ntmps35
      go_wp2_with fail
      refine cR.out.mono ?_; rintro en w1 ⟨rfl, hb1⟩
      have HB1 := Lib.hid hb1
      clear cR hb1
      go_wp2
      go_ret
      exact Ret.mk rfl HB1.out
    · by_cases h3 : sp > 1048576
      · rw [if_pos (.inr h3)] at he
        subst he
        clear hr hl h1
        go_enter Try.func35, Try.ntmps35
        go_wp2_with fail
        refine cR.out.mono ?_; rintro en w1 ⟨rfl, hb1⟩
        have HB1 := Lib.hid hb1
        clear cR hb1
        go_wp2
        go_ret
        exact Ret.mk rfl HB1.out
      · rw [if_neg (by omega)] at he
        subst he
        clear hr hl h1
        go_enter Try.func35, Try.ntmps35
        go_wp2_with fail
        refine cR.out.mono ?_; rintro en w1 ⟨rfl, hb1⟩
        have HB1 := Lib.hid hb1
        clear cR hb1
        go_wp2
        go_ret
        exact Ret.mk rfl HB1.out
  · rw [if_neg h1] at he
    subst he
    have cR := Lib.hid (vright_any A n c l false w hr hl hn (by simp [h1]))
    clear hr hl h1
    go_enter Try.func35, Try.ntmps35
    go_wp2_with fail
    refine cR.out.mono ?_; rintro en w1 ⟨rfl, hb1⟩
    have HB1 := Lib.hid hb1
    clear cR hb1
    go_wp2
    go_ret
    exact Ret.mk rfl HB1.out

set_option maxRecDepth 100000 in
set_option maxHeartbeats 1600000 in
theorem least_any (A : Option Addr) (n c : Nat) (l : List Fm) (w : World) (hr : Rd w w.heap.size 3 A n (l.flatMap Fm.cells)) (hl : l.length = n) (hn : n ≤ 9223372036854775807) :
    Calls Try.prog 36 #[.slice A n c] w (fun e w' => ∃ m : Int, e = .returned (.int .i64 m) ∧ Low l m ∧ Below w.heap.size w w') := by
  have HR := Lib.hid hr
  have HL := Lib.hid hl
  clear hr hl
  go_enter Try.func36, Try.ntmps36
  go_wp2
  go_loopg [3, 8] n (fun q v i wr => ∃ (k : Nat) (m : Int), k ≤ n ∧ q = n - k ∧ v = .int .i64 m ∧ i = .int .i64 k ∧ Hid (Low (l.take k) m) ∧ Below w.heap.size w wr)
  case atStart => exact ⟨0, 1048576, Nat.zero_le _, rfl, rfl, rfl, Lib.hid ⟨Int.le_refl _, by simp, .inl rfl⟩, Below.refl _ _⟩
  case round =>
    obtain ⟨k, m, hk, rfl, rfl, rfl, HG, hb⟩ := hrel
    have HB := Lib.hid hb
    clear hb
    by_cases hlt : k < n
    · obtain ⟨b, off, rfl, hb, hc⟩ := HR.out.at_ Fm.len (by omega)
      obtain ⟨f, hf⟩ : ∃ f, l[k]? = some f := ⟨_, List.getElem?_eq_getElem (by rw [HL.out]; exact hlt)⟩
      obtain ⟨q0, q1, q2⟩ := Fm.facts hb HB.out hc hf
      have i0 : (0 : Int) ≤ (k : Int) := by omega
      have i1 : (k : Int) < (n : Int) := by omega
      have HO := Lib.hid hf
      clear hc hf
      obtain ⟨fn, fd, fw⟩ := f
      simp only at q0 q1 q2
      have HBL := Lib.hid (HB.out.alloc HB.out.size (.cells #[.int .i64 fn, .int .i64 fd, .int .i64 fw] 34))
      obtain ⟨mi, HMI, hmi⟩ := min2_ex Try.prog m fw
      have HN : Hid (Low (l.take (k + 1)) mi) := Lib.hid (by
        rw [List.take_add_one, HO.out]
        obtain ⟨g1, g2, g3⟩ := HG.out
        have hmi := HMI.out
        refine ⟨by split at hmi <;> omega, fun x hx => ?_, ?_⟩
        · rcases List.mem_append.1 hx with h | h
          · have := g2 x h
            split at hmi <;> omega
          · simp only [Option.toList, List.mem_singleton] at h
            subst h
            show mi ≤ fw
            split at hmi <;> omega
        · split at hmi
          · exact .inr ⟨⟨fn, fd, fw⟩, List.mem_append_right _ (by simp), hmi.symm⟩
          · rcases g3 with h | ⟨x, hx, h⟩
            · exact .inl (by omega)
            · exact .inr ⟨x, List.mem_append_left _ hx, by omega⟩)
      clear HMI
      go_wp2
      go_roundg (n - (k + 1))
      case measure => omega
      case rel => exact ⟨k + 1, mi, by omega, rfl, rfl, by go_num, HN, HBL.out⟩
    · have HG2 : Hid (Low l m) := Lib.hid (by have h := HG.out; rwa [List.take_of_length_le (by rw [HL.out]; omega)] at h)
      go_wp2
      go_ret
      exact ⟨m, rfl, HG2.out, HB.out⟩

set_option maxRecDepth 100000 in
set_option maxHeartbeats 1600000 in
theorem vspread_any (A : Option Addr) (n c : Nat) (l : List Fm) (w : World) (hr : Rd w w.heap.size 3 A n (l.flatMap Fm.cells)) (hl : l.length = n) (hn : n ≤ 9223372036854775807) (hok : OkL l) :
    Calls Try.prog 16 #[.slice A n c] w (fun e w' => ∃ m : Int, e = .returned (.int .i64 m) ∧ Sprd l m ∧ Below w.heap.size w w') := by
  have HR := Lib.hid hr
  have HL := Lib.hid hl
  have HOK := Lib.hid hok
  clear hr hl hok
  go_enter Try.func16, Try.ntmps16
  by_cases hn0 : n = 0
  · subst hn0
    have HLN := Lib.hid (List.eq_nil_of_length_eq_zero HL.out)
    go_wp2
    go_ret
    refine ⟨0, rfl, ?_, Below.refl _ _⟩
    rw [HLN.out]
    exact ⟨Int.le_refl _, by simp, .inl rfl⟩
  · have hz : ((n : Int) == 0) = false := by simp; omega
    go_wp2
    clear hz
    go_loopg [3, 11] n (fun q v i wr => ∃ (k : Nat) (m : Int), k ≤ n ∧ q = n - k ∧ v = .int .i64 m ∧ i = .int .i64 k ∧ Hid (Most (l.take k) m) ∧ Below w.heap.size w wr)
    case atStart => exact ⟨0, 0, Nat.zero_le _, rfl, rfl, rfl, Lib.hid ⟨Int.le_refl _, by simp, .inl rfl⟩, Below.refl _ _⟩
    case round =>
      obtain ⟨k, m, hk, rfl, rfl, rfl, HG, hb⟩ := hrel
      have HB := Lib.hid hb
      clear hb
      by_cases hlt : k < n
      · obtain ⟨b, off, rfl, hb, hc⟩ := HR.out.at_ Fm.len (by omega)
        obtain ⟨f, hf⟩ : ∃ f, l[k]? = some f := ⟨_, List.getElem?_eq_getElem (by rw [HL.out]; exact hlt)⟩
        obtain ⟨q0, q1, q2⟩ := Fm.facts hb HB.out hc hf
        have i0 : (0 : Int) ≤ (k : Int) := by omega
        have i1 : (k : Int) < (n : Int) := by omega
        have HO := Lib.hid hf
        clear hc hf
        obtain ⟨fn, fd, fw⟩ := f
        simp only at q0 q1 q2
        have HBL := Lib.hid (HB.out.alloc HB.out.size (.cells #[.int .i64 fn, .int .i64 fd, .int .i64 fw] 34))
        obtain ⟨mi, HMI, hmi⟩ := max2_ex Try.prog m fw
        have HN : Hid (Most (l.take (k + 1)) mi) := Lib.hid (by
          rw [List.take_add_one, HO.out]
          obtain ⟨g1, g2, g3⟩ := HG.out
          have hmi := HMI.out
          refine ⟨by split at hmi <;> omega, fun x hx => ?_, ?_⟩
          · rcases List.mem_append.1 hx with h | h
            · have := g2 x h
              split at hmi <;> omega
            · simp only [Option.toList, List.mem_singleton] at h
              subst h
              show fw ≤ mi
              split at hmi <;> omega
          · split at hmi
            · exact .inr ⟨⟨fn, fd, fw⟩, List.mem_append_right _ (by simp), hmi.symm⟩
            · rcases g3 with h | ⟨x, hx, h⟩
              · exact .inl (by omega)
              · exact .inr ⟨x, List.mem_append_left _ hx, by omega⟩)
        clear HMI
        go_wp2
        go_roundg (n - (k + 1))
        case measure => omega
        case rel => exact ⟨k + 1, mi, by omega, rfl, rfl, by go_num, HN, HBL.out⟩
      · have HG2 : Hid (Most l m) := Lib.hid (by have h := HG.out; rwa [List.take_of_length_le (by rw [HL.out]; omega)] at h)
        have cL := Lib.hid (least_any A n c l wr (HR.out.later HB.out) HL.out hn)
        clear HG
        go_wp2_with fail
        refine cL.out.mono ?_; rintro en w1 ⟨lo, rfl, hlo, hb1⟩
        have HS := Lib.hid (sprd_of HOK.out (by rw [HL.out]; omega) HG2.out hlo)
        have HB1 := Lib.hid (HB.out.trans (hb1.mono HB.out.size))
        have hq : ∃ f ∈ l, True := ⟨_, List.getElem_mem (show 0 < l.length by rw [HL.out]; omega), trivial⟩
        have hlo2 : 0 ≤ lo := by
          rcases hlo.2.2 with e | ⟨f, hf, e⟩
          · omega
          · have := (HOK.out.2 f hf).2.1; omega
        have hlo3 := hlo.1
        have hm2 : 0 ≤ m := HG2.out.1
        have hm3 : m ≤ 1048576 := by
          rcases HG2.out.2.2 with e | ⟨f, hf, e⟩
          · omega
          · have := (HOK.out.2 f hf).2.2; omega
        clear hlo hb1 cL hq
        go_wp2
        go_ret
        exact ⟨m - lo, rfl, HS.out, HB1.out⟩
end Vic
end Go.Proofs.Ytfljbiobiobamab
