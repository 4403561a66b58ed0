/-
  Walk of the reference's YParse. Conditions: none beyond each theorem's own premises.
-/
import Derived.Test.YtccpkkopniadiaaGreatDoorBnX
namespace Go.Proofs.YtccpkkopniadiaaGreatDoor
open Go.RowKit Go.Shelf Go.Sort
set_option linter.unusedVariables false
namespace Bn

theorem index_by (x : By) (i : Nat) (b : UInt8) (h : x[i]? = some b) (W : World) : (Instr.index 9 (.string (bs x)) (.int .i64 (i : Int))).run Tryz.prog W = .ok (.int .u8 (b.toNat : Int)) W := by
  obtain ⟨hi, hb⟩ := List.getElem?_eq_some_iff.1 h
  have hs := bs_size x
  rw [run_index_string W 9 (bs x) .i64 (i : Int) Tryz.underlying9, dif_pos ⟨by omega, by omega⟩]
  have e : (bs x).data[i]'(by show i < (bs x).size; omega) = b := by
    rw [← hb]
    simp [bs]
  simp only [Int.toNat_natCast]
  first
    | rw [e]
    | (have e2 : (bs x)[i]'(by omega) = b := e; rw [e2])
/-- a line's end at i: what is read from f on -/
theorem line_at {x : By} {f i : Nat} (hf : f ≤ i) (h : x[i]? = some 10) : x.drop f = (x.take i).drop f ++ 10 :: x.drop (i + 1) := by
  obtain ⟨hi, hb⟩ := List.getElem?_eq_some_iff.1 h
  have e : x = x.take i ++ 10 :: x.drop (i + 1) := by
    conv => lhs; rw [← List.take_append_drop i x, List.drop_eq_getElem_cons hi, hb]
  have hl : (x.take i).length = i := by rw [List.length_take]; omega
  conv => lhs; rw [e]
  rw [List.drop_append, hl, show f - i = 0 by omega, List.drop_zero]
theorem no_step {x : By} {f i : Nat} {b : UInt8} (hf : f ≤ i) (h : ∀ c ∈ (x.take i).drop f, c ≠ 10) (hb : x[i]? = some b) (h10 : b ≠ 10) : ∀ c ∈ (x.take (i + 1)).drop f, c ≠ 10 := by
  obtain ⟨hi, _⟩ := List.getElem?_eq_some_iff.1 hb
  have hl : (x.take i).length = i := by rw [List.length_take]; omega
  intro c hc
  rw [List.take_add_one, hb, List.drop_append, hl, show f - i = 0 by omega, List.drop_zero] at hc
  rcases List.mem_append.1 hc with hc | hc
  · exact h c hc
  · simp at hc
    rw [hc]
    exact h10

set_option maxRecDepth 100000 in
set_option maxHeartbeats 6400000 in
theorem yparse_any (x : By) (S : ByteArray) (hS : bs x = S) (hl : x.length ≤ 67108865) (r : Option (List So.Op)) (kk : Nat) (hr : PR x [] r kk) (w : World) (hg : Gl w) :
    Calls Tryz.prog 20 #[.string S] w (PRv w r kk) := by
  obtain ⟨ti, hti, t0, t1, t2⟩ := info_parts op_info
  have HSS := Lib.hid hS
  have HG := Lib.hid hg
  have HR := Lib.hid hr
  have HS0 := Lib.hid ((Sep.nil_ w).nilRow 53 4 none)
  obtain ⟨N, hN⟩ : ∃ N, x.length = N := ⟨_, rfl⟩
  have hsz : S.size = N := by rw [← hS, bs_size, hN]
  have HN := Lib.hid hN
  rw [hN] at hl
  clear hg hr hN hS
  go_enter Tryz.func20, Tryz.ntmps20
  go_wp2
  go_loopg [5, 6, 12] N (fun g ov fv iv wr => ∃ (i f : Nat) (es : List So.Op) (A : Option Addr) (n c : Nat), g = N - i ∧ iv = .int .i64 i ∧ fv = .int .i64 f ∧ ov = .slice A n c ∧ i ≤ N ∧ f ≤ i ∧ Hid (∀ c ∈ (x.take i).drop f, c ≠ 10) ∧ Hid (es.length = n) ∧ n ≤ f ∧ n ≤ c ∧ Hid (PR (x.drop f) es r kk) ∧ Sep w wr [.row 53 4 (.slice A n c) n (es.flatMap So.Op.cells)])
  case atStart => exact ⟨0, 0, [], none, 0, 0, by omega, rfl, rfl, rfl, by omega, by omega, Lib.hid (by simp), Lib.hid rfl, by omega, by omega, Lib.hid (by rw [List.drop_zero]; exact HR.out), HS0.out⟩
  case round =>
    obtain ⟨i, f, es, A, n, c, rfl, rfl, rfl, rfl, hi, hf, HNO, HE, hnf, hnc, HP, hs⟩ := hrel
    have HS := Lib.hid hs
    clear hs
    have i0 : (0 : Int) ≤ (i : Int) := by omega
    have i1 : (0 : Int) ≤ (f : Int) := by omega
    have i2 : (f : Int) ≤ (i : Int) := by omega
    by_cases hlt : i < N
    · obtain ⟨b, hb⟩ : ∃ b, x[i]? = some b := ⟨_, List.getElem?_eq_getElem (by rw [HN.out]; exact hlt)⟩
      have i3 : (i : Int) < (N : Int) := by omega
      have i4 : (i : Int) ≤ (N : Int) := by omega
      have hix := fun W => index_by x i b hb W
      rw [HSS.out] at hix
      obtain ⟨i1_, hi1⟩ : ∃ q, q = i + 1 := ⟨_, rfl⟩
      have v1 : (i : Int) + 1 = (i1_ : Int) := by omega
      have v2 := wrap_i64 (show i1_ ≤ 9223372036854775807 by omega)
      have HI1 := Lib.hid hi1
      have HB := Lib.hid hb
      clear hb hi1
      by_cases h10 : b = 10
      · subst h10
        have h1 : ((((10 : UInt8).toNat : Nat) : Int) != 10) = false := by decide
        have hix2 : ∀ W, (Instr.index 9 (.string S) (.int .i64 (i : Int))).run Tryz.prog W = .ok (.int .u8 10) W := hix
        obtain ⟨l, hl0⟩ : ∃ l, (x.take i).drop f = l := ⟨_, rfl⟩
        have hex : S.extract f i = bs l := by
          rw [← HSS.out]
          refine bs_ext _ _ _ _ ?_
          rw [bs_data, hl0]
        have hll : l.length ≤ 67108865 := by
          rw [← hl0, List.length_drop, List.length_take, HN.out]
          omega
        have HLN : Hid (∀ c ∈ l, c ≠ 10) := Lib.hid (by rw [← hl0]; exact HNO.out)
        have HP2 : Hid (PR (l ++ 10 :: x.drop (i + 1)) es r kk) := Lib.hid (by rw [← hl0, ← line_at hf HB.out]; exact HP.out)
        have cY := Lib.hid (yread_any l _ rfl hll wr (HG.out.later HS.out.below))
        clear hix hl0 hll h1
        go_wp2_with fail
        refine cY.out.mono ?_; rintro en w1 ⟨o, ok, rfl, hok1, hok2, hoo, hb1⟩
        have HT := Lib.hid hok1
        have HF := Lib.hid hok2
        have HS3 : Hid (Sep w (w1.alloc (.cells #[.int .i64 o.kind, .string o.nm, .string o.dt, .int .i64 o.keep] 53)) [.row 53 4 (.slice A n c) n (es.flatMap So.Op.cells), .cells w1.heap.size 53 [.int .i64 o.kind, .string o.nm, .string o.dt, .int .i64 o.keep]]) := Lib.hid ((HS.out.later hb1).new 53 [.int .i64 o.kind, .string o.nm, .string o.dt, .int .i64 o.keep])
        clear cY hok1 hok2 hoo hb1 HS hex
        go_upto_region 8 with (fail)
        generalize w1.alloc (.cells #[.int .i64 o.kind, .string o.nm, .string o.dt, .int .i64 o.keep] 53) = w3 at HS3 ⊢
        generalize w1.heap.size = gx at HS3 ⊢
        cases ok with
        | false =>
          obtain ⟨hrn, hkn⟩ := pr_bad HP2.out HLN.out (HF.out rfl)
          have HRN := Lib.hid hrn
          have HKN := Lib.hid hkn
          clear hrn hkn
          go_wp2
          refine bodyPost_ret (v := .tuple #[.slice none 0 0, .int .i64 (n : Int), .int .i64 1]) (by simp [results, Tryz.results20]) rfl ?_
          rw [HRN.out]
          exact ⟨by rw [HKN.out, HE.out], HS3.out.below⟩
        | true =>
          have HPR := Lib.hid (pr_line HP2.out HLN.out (HT.out rfl))
          have HE2 : Hid ((es ++ [o]).length = n + 1) := Lib.hid (by rw [List.length_append, HE.out]; rfl)
          have hnew := Rd.of_own (own_new w3 53 #[.int .i64 o.kind, .string o.nm, .string o.dt, .int .i64 o.keep] 4 1 rfl (by simp [maxLen]) (Nat.le_refl _))
          have p0 := HS3.out.cell 1 rfl (k := 0) rfl
          have p1 := HS3.out.cell 1 rfl (k := 1) rfl
          have p2 := HS3.out.cell 1 rfl (k := 2) rfl
          have p3 := HS3.out.cell 1 rfl (k := 3) rfl
          go_wp2_with (at_builtin; refine wpList_append_sep (HS3.out.alloc _) 0 rfl (.tmp 31) (.tmp 33) 28 rfl 53 ti (.agg #[.int .i64 0, .string ⟨#[]⟩, .string ⟨#[]⟩, .int .i64 0]) 4 48 Tryz.underlying28 hti t0 t1 t2 rfl (by omega) _ n _ rfl rfl _ _ 1 1 _ rfl hnew (by simp [Value.oneCell']) (by simp only [maxLen]; omega) (by omega) ?_; intro A6 c6 w5 hc6 hsz5 hs5)
          go_roundg (N - i1_)
          case measure => have := HI1.out; omega
          case rel => exact ⟨i1_, i1_, es ++ [o], A6, n + 1, c6, rfl, by go_num, by go_num, rfl, by have := HI1.out; omega, by omega, Lib.hid (by rw [List.drop_of_length_le (by rw [List.length_take]; omega)]; simp), HE2, by have := HI1.out; omega, hc6, Lib.hid (by rw [HI1.out]; exact HPR.out), by have h := hs5.pick [0] (by decide) (by simp); rw [List.flatMap_append]; simpa [pickL, So.Op.cells] using h⟩
      · have hb10 : b.toNat ≠ 10 := fun e => h10 (UInt8.toNat_inj.1 e)
        have h1 : ((b.toNat : Int) != 10) = true := by
          simp
          omega
        have HN2 := Lib.hid (no_step hf HNO.out HB.out h10)
        clear h10 hb10
        go_wp2
        go_roundg (N - i1_)
        case measure => have := HI1.out; omega
        case rel => exact ⟨i1_, f, es, A, n, c, rfl, by go_num, rfl, rfl, by have := HI1.out; omega, by have := HI1.out; omega, Lib.hid (by rw [HI1.out]; exact HN2.out), HE, hnf, hnc, HP, HS.out⟩
    · obtain rfl : i = N := by omega
      have HNN : Hid (∀ c ∈ x.drop f, c ≠ 10) := Lib.hid (by
        have h := HNO.out
        rw [List.take_of_length_le (by rw [HN.out]; omega)] at h
        exact h)
      by_cases hfl : f < i
      · have i5 : (f : Int) < (i : Int) := by omega
        have h0 : x.drop f ≠ [] := fun e => by
          have := congrArg List.length e
          rw [List.length_drop, HN.out] at this
          simp at this
          omega
        obtain ⟨hrn, hkn⟩ := pr_rest HP.out h0 HNN.out
        have HRN := Lib.hid hrn
        have HKN := Lib.hid hkn
        clear hrn hkn h0
        go_wp2
        refine bodyPost_ret (v := .tuple #[.slice none 0 0, .int .i64 (n : Int), .int .i64 1]) (by simp [results, Tryz.results20]) rfl ?_
        rw [HRN.out]
        exact ⟨by rw [HKN.out, HE.out], HS.out.below⟩
      · have i5 : ¬ (f : Int) < (i : Int) := by omega
        have h0 : x.drop f = [] := List.drop_of_length_le (by rw [HN.out]; omega)
        have HF : Hid (r = some es) := Lib.hid (by
          have h := HP.out
          rw [h0] at h
          exact pr_done h)
        clear h0
        go_wp2
        refine bodyPost_ret (v := .tuple #[.slice A n c, .int .i64 0, .int .i64 0]) (by simp [results, Tryz.results20]) rfl ?_
        rw [HF.out]
        refine ⟨A, c, ?_, ?_, ?_⟩
        · rw [HE.out]; exact hnc
        · rw [HE.out]
        · rw [HE.out]; exact HS.out
end Bn
end Go.Proofs.YtccpkkopniadiaaGreatDoor
