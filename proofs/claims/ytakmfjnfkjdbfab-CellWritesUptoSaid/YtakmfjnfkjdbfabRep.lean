/-
  bytes.Repeat of one byte. Conditions: none beyond each theorem's own premises.
-/
import Derived.Test.YtakmfjnfkjdbfabSlices
import Derived.Test.YtakmfjnfkjdbfabDelIns
import Derived.Shelf.Bits.Mul64
import Derived.Lib.MakeNoZero
import Derived.Laws.CopyRow
namespace Go.Proofs.Ytakmfjnfkjdbfab
open Go.RowKit
set_option linter.unusedVariables false

set_option maxHeartbeats 1000000 in
theorem mul64_any (x y : Nat) (hx : x < 18446744073709551616) (hy : y < 18446744073709551616) (w : World) :
    Calls Try.prog 77 #[.int .u64 x, .int .u64 y] w fun e w' => e = .returned (.tuple #[.int .u64 ((x * y / 18446744073709551616 : Nat) : Int), .int .u64 ((x * y % 18446744073709551616 : Nat) : Int)]) ∧ w' = w := by
  obtain ⟨bd, bt, bw, hhi⟩ := Lib.mul64_hi x y hx hy
  have ba := Lib.half_mul_le (a := x / 4294967296) (b := y / 4294967296) (by omega) (by omega)
  have bb := Lib.half_mul_le (a := x / 4294967296) (b := y % 4294967296) (by omega) (by omega)
  have bc := Lib.half_mul_le (a := x % 4294967296) (b := y / 4294967296) (by omega) (by omega)
  have ba' : x / 4294967296 * (y / 4294967296) < 18446744073709551616 := by omega
  have bb' : x / 4294967296 * (y % 4294967296) < 18446744073709551616 := by omega
  have bc' : x % 4294967296 * (y / 4294967296) < 18446744073709551616 := by omega
  have bh1 : x / 4294967296 * (y / 4294967296) + (x / 4294967296 * (y % 4294967296) + x % 4294967296 * (y % 4294967296) / 4294967296) / 4294967296 < 18446744073709551616 := by omega
  have bh : x / 4294967296 * (y / 4294967296) + (x / 4294967296 * (y % 4294967296) + x % 4294967296 * (y % 4294967296) / 4294967296) / 4294967296 + ((x / 4294967296 * (y % 4294967296) + x % 4294967296 * (y % 4294967296) / 4294967296) % 4294967296 + x % 4294967296 * (y / 4294967296)) / 4294967296 < 18446744073709551616 := by omega
  go_enter Try.func77, Try.ntmps77
  go_wp2
  simp only [Mul64.maskN x hx, Mul64.maskN y hy, Mul64.divN, Mul64.mulN, Mul64.addN, Mul64.wrapN _ bd, Mul64.wrapN _ bb', Mul64.wrapN _ bt, Mul64.maskN _ bt, Mul64.wrapN _ bc', Mul64.wrapN _ bw, Mul64.wrapN _ ba', Mul64.wrapN _ bh1, Mul64.wrapN _ bh, Mul64.wrapM (x * y)]
  rw [hhi]
  go_ret2
  exact ⟨rfl, rfl⟩
set_option maxHeartbeats 1000000 in
theorem mul_any (x y : Nat) (hx : x < 18446744073709551616) (hy : y < 18446744073709551616) (w : World) :
    Calls Try.prog 50 #[.int .u64 x, .int .u64 y] w fun e w' => e = .returned (.tuple #[.int .u64 ((x * y / 18446744073709551616 : Nat) : Int), .int .u64 ((x * y % 18446744073709551616 : Nat) : Int)]) ∧ w' = w := by
  have c64 := Lib.hid (mul64_any x y hx hy w)
  go_enter Try.func50, Try.ntmps50
  go_wp2_with fail
  refine c64.out.mono ?_; rintro e w' ⟨rfl, rfl⟩
  go_wp2
  go_ret2
  exact ⟨rfl, rfl⟩

/-- what bytes.Repeat hands back: a slice that reads as k times the byte -/
def RepRet (w : World) (k : Nat) (x : Value) (e : Ending) (w' : World) : Prop :=
  ∃ A c, k ≤ c ∧ e = .returned (.slice A k c) ∧ Below w.heap.size w w' ∧ Rd w' w'.heap.size 1 A k (List.replicate k x)
theorem rep_take {bp m k : Nat} {x : Value} {l : List Value} (h : l.take bp = List.replicate bp x) (hl : k ≤ l.length) (hm : m ≤ bp) (hk : bp + m ≤ k) :
    (l.take bp ++ List.replicate m x ++ l.drop (bp + m)).take (bp + m) = List.replicate (bp + m) x := by
  have h1 : (l.take bp ++ List.replicate m x).length = bp + m := by simp; omega
  have := List.take_left (l₁ := l.take bp ++ List.replicate m x) (l₂ := l.drop (bp + m))
  rw [h1] at this
  rw [this, h, List.replicate_append_replicate]

set_option maxRecDepth 100000 in
set_option maxHeartbeats 3200000 in
theorem repeat_any (A : Option Addr) (c k : Nat) (x : Int) (w : World) (hr : Rd w w.heap.size 1 A 1 [.int .u8 x]) (hk : 1 ≤ k) (hk8 : k ≤ 8192) :
    Calls Try.prog 49 #[.slice A 1 c, .int .i64 (k : Int)] w (RepRet w k (.int .u8 x)) := by
  obtain ⟨cs, hmk, hcs, _⟩ := Lib.run_makeNoZero (P := Try.prog) w #[3] 34 5 Try.underlying34 k (by omega)
  have hmk' : (callFunc 75 #[.int .i64 (k : Int)]).run Try.prog w = .ok (.value (.slice (some ⟨w.heap.size, 0, none⟩) k cs.size)) (w.drew.drew.alloc (.cells cs 5)) := by
    rw [run_callFunc_extern Try.func75 (by kernel_rfl) (by kernel_rfl) (by kernel_rfl) (e := Extern.BytealgMakeNoZero.makeNoZero #[3] #[34]) (by kernel_rfl), hmk]
    rfl
  have hC : ∀ w, (sizeOf 5).run Try.prog w = .ok 1 w := by
    obtain ⟨ti, hti, t0, t1, t2⟩ := info_parts (show (Try.prog.info? 5).map (fun i => (i.zero, i.size, i.bytes)) = some (some (.int .u8 0), 1, 1) by kernel_rfl)
    exact size_of_info hti t1
  have cM := Lib.hid (mul_any 1 k (by omega) (by omega) w)
  rw [Nat.one_mul, Nat.div_eq_of_lt (by omega), Nat.mod_eq_of_lt (by omega)] at cM
  have HR := Lib.hid hr
  have HCS := Lib.hid hcs
  have z0 : ¬ (k : Int) = 0 := by omega
  have z1 : ¬ (k : Int) < 0 := by omega
  have z2 : ¬ (8192 : Int) < (k : Int) := by omega
  have z3 : ((k : Int) == 0) = false := by simp; omega
  have z4 : k ≤ 9223372036854775807 := by omega
  clear hr hmk hcs
  go_enter Try.func49, Try.ntmps49
  go_wp2_with fail
  refine cM.out.mono ?_; rintro e w9 ⟨rfl, hw9⟩
  have hw8 := hw9.symm
  subst hw8
  clear cM
  have hsl : ∀ W, (Instr.slice 34 (.slice (some ⟨w.heap.size, 0, none⟩) k cs.size) none (some (.int .i64 (k : Int))) (some (.int .i64 (k : Int)))).run Try.prog W = .ok (.slice (some ⟨w.heap.size, 0, none⟩) k k) W := fun W => by
    have hu : Try.prog.underlying 34 = some (.slice (Try.prog.elem 34)) := by
      have he : Try.prog.elem 34 = 5 := by unfold Program.elem; rw [Try.underlying34]
      rw [he]; exact Try.underlying34
    have he : Try.prog.elem 34 = 5 := by unfold Program.elem; rw [Try.underlying34]
    rw [run_slice_hm W 34 (some ⟨w.heap.size, 0, none⟩) k cs.size hu .i64 .i64 (k : Int) (k : Int) (by omega) (by omega) (by have := HCS.out; omega), he, hC]
    simp [Result.andThen, sliced, Addr.add]
  have S1 : Hid (Sep w ((w.alloc (.cells cs 5)).drew.drew) [.cells w.heap.size 5 cs.toList]) := Lib.hid (by
    have := (((Sep.nil_ w).new 5 cs.toList).drew).drew
    simpa using this)
  have HM : Hid (cs.toList.length = cs.size) := Lib.hid (by simp)
  go_upto_region 16 with (fail)
  go_upto_region 17 with (simp only [hmk'])
  generalize (w.alloc (.cells cs 5)).drew.drew = w1 at S1 ⊢
  generalize cs.toList = l0 at S1 HM
  generalize w.heap.size = g at S1 hsl ⊢
  generalize hMM : cs.size = M at *
  clear hmk' hMM cs
  obtain ⟨b, off, rfl, hb, hc⟩ := HR.out.2 (by omega)
  have hx : w1.cell? ⟨b, off, none⟩ = some (.int .u8 x) := (S1.out.below.cell hb).trans (hc 0 _ rfl)
  have hcp : ∀ ty, (Builtin.copy_ #[34, 34] ty #[.slice (some ⟨g, 0, none⟩) k k, .slice (some ⟨b, off, none⟩) 1 c]).run Try.prog w1 = .ok (goInt 1) (w1.setRow g (Value.int .u8 x :: l0.tail).toArray) := fun ty => by
    have := run_copy_row (P := Try.prog) w1 34 34 ty 5 g 0 k k ⟨b, off, none⟩ 1 c l0.toArray 5 [.int .u8 x] Try.underlying34 (by kernel_rfl) (S1.out.blk 0 rfl)
      (by simp only [List.length_cons, List.length_nil, Nat.min_def]; split <;> omega) (fun j v hj => by
        cases j with
        | zero => simp at hj; subst hj; rw [addr_add_lit]; exact hx
        | succ j => simp at hj) (by have := HM.out; have := HCS.out; simp; omega) (by simp [Value.oneCell'])
    simpa using this
  have S2 := Lib.hid (S1.out.whole 0 rfl (Value.int .u8 x :: l0.tail))
  have HL1 : Hid ((Value.int .u8 x :: l0.tail).length = M) := Lib.hid (by simp; have := HM.out; have := HCS.out; omega)
  have HT1 : Hid ((Value.int .u8 x :: l0.tail).take 1 = List.replicate 1 (Value.int .u8 x)) := Lib.hid (by simp)
  clear hx hc
  go_upto_region 18 with (at_builtin; refine wpList_copy_runI _ rfl _ _ 34 34 rfl _ _ rfl rfl (hcp _) ?_)
  generalize (Value.int .u8 x :: l0.tail) = l1 at S2 HL1 HT1 ⊢
  generalize w1.setRow g l1.toArray = w2 at S2 ⊢
  clear hcp S1
  go_wp2
  go_loopg [10] (k - 1) (fun q v10 wr => ∃ (bp : Nat) (l : List Value), 1 ≤ bp ∧ bp ≤ k ∧ q = k - bp ∧ v10 = .int .i64 bp ∧ Hid (l.length = M) ∧ Hid (l.take bp = List.replicate bp (Value.int .u8 x)) ∧ Sep w wr [.cells g 5 l])
  case atStart => exact ⟨1, l1, Nat.le_refl _, hk, rfl, rfl, HL1, HT1, S2.out⟩
  case round =>
    clear S2 HL1 HT1 l1 w2
    obtain ⟨bp, l, hb1, hbk, rfl, rfl, HL, HT, hs⟩ := hrel
    have HS := Lib.hid hs
    clear hs
    by_cases hlt : bp < k
    · obtain ⟨d, hd⟩ : ∃ d, k = bp + d := ⟨k - bp, by omega⟩
      obtain ⟨m, hm⟩ : ∃ m, m = Nat.min bp d := ⟨_, rfl⟩
      have hm1 : 1 ≤ m ∧ m ≤ bp ∧ m ≤ d := by rw [hm]; simp only [Nat.min_def]; split <;> omega
      have hmin : ∀ ts t W, (Builtin.min_ ts t #[.int .i64 (bp : Int), .int .i64 (k : Int)]).run Try.prog W = .ok (.int .i64 (bp : Int)) W := fun ts t W => by
        have := run_min_int2 (P := Try.prog) (w := W) ts t .i64 .i64 (bp : Int) (k : Int)
        rwa [if_neg (by omega)] at this
      have hs1 : ∀ W, (Instr.slice 34 (.slice (some ⟨g, 0, none⟩) k k) (some (.int .i64 (bp : Int))) none none).run Try.prog W = .ok (.slice (some ⟨g, bp, none⟩) d d) W := fun W => by
        have := from_run (P := Try.prog) Try.underlying34 hC (some ⟨g, 0, none⟩) k k bp (by omega) W
        rw [fromAddr_some g k bp 1 (by omega), Nat.mul_one, show k - bp = d by omega] at this
        exact this
      have hs2 := upto_run (P := Try.prog) Try.underlying34 hC (some ⟨g, 0, none⟩) k k bp (by omega)
      have HD := Lib.hid hd
      have HMM := Lib.hid hm
      have HM1 := Lib.hid hm1
      have i1 : (bp : Int) < (k : Int) := by omega
      clear hd hm hm1
      go_upto_region 20 with (fail)
      obtain ⟨l2, hl2⟩ : ∃ l2, l2 = l.take bp ++ List.replicate m (Value.int .u8 x) ++ l.drop (bp + m) := ⟨_, rfl⟩
      have HL2 : Hid (l2.length = M) := Lib.hid (by
        obtain ⟨m1, m2, m3⟩ := HM1.out
        have := HL.out; have := HCS.out; have := HD.out
        rw [hl2]
        simp
        omega)
      obtain ⟨bp2, HB2⟩ : ∃ bp2, Hid (bp2 = bp + m) := ⟨_, Lib.hid rfl⟩
      have HT2 : Hid (l2.take bp2 = List.replicate bp2 (Value.int .u8 x)) := Lib.hid (by
        obtain ⟨m1, m2, m3⟩ := HM1.out
        rw [hl2, HB2.out]
        exact rep_take (k := k) HT.out (by have := HL.out; have := HCS.out; omega) m2 (by have := HD.out; omega))
      have HCP : Hid (∀ V, Sep w V [.cells g 5 l] → (∀ ty, (Builtin.copy_ #[34, 34] ty #[.slice (some ⟨g, bp, none⟩) d d, .slice (some ⟨g, 0, none⟩) bp k]).run Try.prog V = .ok (.int .i64 (m : Int)) (V.setRow g l2.toArray)) ∧ Sep w (V.setRow g l2.toArray) [.cells g 5 l2]) := Lib.hid (fun V hV => by
        refine ⟨fun ty => ?_, hV.whole 0 rfl l2⟩
        obtain ⟨m1, m2, m3⟩ := HM1.out
        have := run_copy_row (P := Try.prog) V 34 34 ty 5 g bp d d ⟨g, 0, none⟩ bp k l.toArray 5 (List.replicate m (Value.int .u8 x)) Try.underlying34 (by kernel_rfl) (hV.blk 0 rfl)
          (by rw [List.length_replicate]; exact HMM.out) (fun j v hj => by
            rw [List.getElem?_replicate] at hj
            split at hj
            · cases hj
              rw [addr_add_lit, Nat.zero_add]
              refine hV.cell 0 rfl ?_
              have h1 := congrArg (fun l => l[j]?) HT.out
              simp only [List.getElem?_take, List.getElem?_replicate] at h1
              rw [if_pos (by omega), if_pos (by omega)] at h1
              exact h1
            · cases hj) (by have := HL.out; have := HCS.out; have := HD.out; simp; omega) (by intro v hv; rw [List.mem_replicate] at hv; rw [hv.2]; rfl)
        rw [hl2]
        simpa [goInt] using this)
      have kb : (bp : Int) + (m : Int) = (bp2 : Int) := by rw [HB2.out]; omega
      have kb2 : bp2 ≤ k := by have := HB2.out; have := HD.out; have := HM1.out; omega
      have kb3 : IntKind.i64.wrap (bp2 : Int) = (bp2 : Int) := by rw [IntKind.wrap_i64]; omega
      clear hl2
      refine wp_region_inv0 (fun ac0 L ac w' => ∃ x10 x67 x68 x69 x70 x71 x72 x73 x74 x75, ac = turn ac0 [(10, x10), (67, x67), (68, x68), (69, x69), (70, x70), (71, x71), (72, x72), (73, x73), (74, x74), (75, x75)] ∧ (L 0 = true → x67 = .int .i64 (bp : Int)) ∧ (L 1 = true → x68 = .slice (some ⟨g, 0, none⟩) k k) ∧ (L 2 = true → x69 = .int .i64 (bp : Int)) ∧ (L 3 = true → x70 = .slice (some ⟨g, bp, none⟩) d d) ∧ (L 4 = true → x71 = .slice (some ⟨g, 0, none⟩) k k) ∧ (L 5 = true → x72 = .int .i64 (bp : Int)) ∧ (L 6 = true → x73 = .slice (some ⟨g, 0, none⟩) bp k) ∧ (L 8 = true → x75 = .int .i64 (bp2 : Int)) ∧ (L 9 = true → x10 = .int .i64 (bp2 : Int)) ∧ (L 3 = true → L 1 = true ∧ L 2 = true) ∧ (L 6 = true → L 4 = true ∧ L 5 = true) ∧ (L 7 = true → L 3 = true ∧ L 6 = true) ∧ (L 8 = true → L 0 = true ∧ L 7 = true) ∧ (L 9 = true → L 0 = true ∧ L 1 = true ∧ L 2 = true ∧ L 3 = true ∧ L 4 = true ∧ L 5 = true ∧ L 6 = true ∧ L 7 = true ∧ L 8 = true) ∧ (L 9 = false → x10 = .int .i64 (bp : Int)) ∧ (if L 7 = true then (x74 = .int .i64 (m : Int) ∧ Sep w w' [.cells g 5 l2]) else Sep w w' [.cells g 5 l])) rfl (by kernel_rfl) ?_ ?_ ?_
      · simp only [turn, List.foldl_cons, List.foldl_nil, List.setIfInBounds_toArray, List.set_cons_succ, List.set_cons_zero]
        exact ⟨_, _, _, _, _, _, _, _, _, _, rfl, (fun h => absurd h (by decide)), (fun h => absurd h (by decide)), (fun h => absurd h (by decide)), (fun h => absurd h (by decide)), (fun h => absurd h (by decide)), (fun h => absurd h (by decide)), (fun h => absurd h (by decide)), (fun h => absurd h (by decide)), (fun h => absurd h (by decide)), (fun h => absurd h (by decide)), (fun h => absurd h (by decide)), (fun h => absurd h (by decide)), (fun h => absurd h (by decide)), (fun h => absurd h (by decide)), (fun _ => rfl), by simpa using HS.out.drew⟩
      · rintro L ac w' i o ⟨x10, x67, x68, x69, x70, x71, x72, x73, x74, x75, ha, p0, p1, p2, p3, p4, p5, p6, p8, p9, q3, q6, q7, q8, q9, n9, hS⟩ ho hi he
        simp only [turn, List.foldl_cons, List.foldl_nil, List.setIfInBounds_toArray, List.set_cons_succ, List.set_cons_zero] at ha ⊢
        subst ha
        rcases i with _|_|_|_|_|_|_|_|_|_|i
        all_goals cases ho
        all_goals simp [Region.binds] at he
        · have h8 : L 8 = false := by cases hh : L 8 with | false => rfl | true => (have hq := q8 hh; simp [hi] at hq)
          have h9 : L 9 = false := by cases hh : L 9 with | false => rfl | true => (have hq := q9 hh; simp [hi] at hq)
          obtain rfl := n9 h9
          refine wpOp_step rfl (fun K hK => ?_)
          go_simp
          exact hK _ _ ⟨_, _, _, _, _, _, _, _, _, _, rfl, (fun _ => rfl), (by first | exact p1 | exact fun _ => rfl), (by first | exact p2 | exact fun _ => rfl), (by first | exact p3 | exact fun _ => rfl), (by first | exact p4 | exact fun _ => rfl), (by first | exact p5 | exact fun _ => rfl), (by first | exact p6 | exact fun _ => rfl), (by simp [h8]), (by simp [h9]), (by simpa using q3), (by simpa using q6), (by simpa using q7), (by simp [h8]), (by simp [h9]), (by first | exact fun _ => rfl | exact n9), (by simpa [h8, h9] using hS)⟩
        · have h3 : L 3 = false := by cases hh : L 3 with | false => rfl | true => (have hq := q3 hh; simp [hi] at hq)
          have h9 : L 9 = false := by cases hh : L 9 with | false => rfl | true => (have hq := q9 hh; simp [hi] at hq)
          have h7 : L 7 = false := by cases hh : L 7 with | false => rfl | true => (have hq := q7 hh; simp [h3] at hq)
          have h8 : L 8 = false := by cases hh : L 8 with | false => rfl | true => (have hq := q8 hh; simp [h7] at hq)
          refine wpOp_step rfl (fun K hK => ?_)
          go_simp
          exact hK _ _ ⟨_, _, _, _, _, _, _, _, _, _, rfl, (by first | exact p0 | exact fun _ => rfl), (fun _ => rfl), (by first | exact p2 | exact fun _ => rfl), (by simp [h3]), (by first | exact p4 | exact fun _ => rfl), (by first | exact p5 | exact fun _ => rfl), (by first | exact p6 | exact fun _ => rfl), (by simp [h8]), (by simp [h9]), (by simp [h3]), (by simpa using q6), (by simp [h7]), (by simp [h8]), (by simp [h9]), (by first | exact fun _ => rfl | exact n9), (by simpa [h3, h9, h7, h8] using hS)⟩
        · have h3 : L 3 = false := by cases hh : L 3 with | false => rfl | true => (have hq := q3 hh; simp [hi] at hq)
          have h9 : L 9 = false := by cases hh : L 9 with | false => rfl | true => (have hq := q9 hh; simp [hi] at hq)
          have h7 : L 7 = false := by cases hh : L 7 with | false => rfl | true => (have hq := q7 hh; simp [h3] at hq)
          have h8 : L 8 = false := by cases hh : L 8 with | false => rfl | true => (have hq := q8 hh; simp [h7] at hq)
          obtain rfl := n9 h9
          refine wpOp_step rfl (fun K hK => ?_)
          go_simp
          exact hK _ _ ⟨_, _, _, _, _, _, _, _, _, _, rfl, (by first | exact p0 | exact fun _ => rfl), (by first | exact p1 | exact fun _ => rfl), (fun _ => rfl), (by simp [h3]), (by first | exact p4 | exact fun _ => rfl), (by first | exact p5 | exact fun _ => rfl), (by first | exact p6 | exact fun _ => rfl), (by simp [h8]), (by simp [h9]), (by simp [h3]), (by simpa using q6), (by simp [h7]), (by simp [h8]), (by simp [h9]), (by first | exact fun _ => rfl | exact n9), (by simpa [h3, h9, h7, h8] using hS)⟩
        · have h7 : L 7 = false := by cases hh : L 7 with | false => rfl | true => (have hq := q7 hh; simp [hi] at hq)
          have h9 : L 9 = false := by cases hh : L 9 with | false => rfl | true => (have hq := q9 hh; simp [hi] at hq)
          have h8 : L 8 = false := by cases hh : L 8 with | false => rfl | true => (have hq := q8 hh; simp [h7] at hq)
          obtain rfl := p1 (by simp [he])
          obtain rfl := p2 (by simp [he])
          refine wpOp_step rfl (fun K hK => ?_)
          go_simp
          exact hK _ _ ⟨_, _, _, _, _, _, _, _, _, _, rfl, (by first | exact p0 | exact fun _ => rfl), (by first | exact p1 | exact fun _ => rfl), (by first | exact p2 | exact fun _ => rfl), (fun _ => rfl), (by first | exact p4 | exact fun _ => rfl), (by first | exact p5 | exact fun _ => rfl), (by first | exact p6 | exact fun _ => rfl), (by simp [h8]), (by simp [h9]), (by simp [he]), (by simpa using q6), (by simp [h7]), (by simp [h8]), (by simp [h9]), (by first | exact fun _ => rfl | exact n9), (by simpa [h7, h9, h8] using hS)⟩
        · have h6 : L 6 = false := by cases hh : L 6 with | false => rfl | true => (have hq := q6 hh; simp [hi] at hq)
          have h9 : L 9 = false := by cases hh : L 9 with | false => rfl | true => (have hq := q9 hh; simp [hi] at hq)
          have h7 : L 7 = false := by cases hh : L 7 with | false => rfl | true => (have hq := q7 hh; simp [h6] at hq)
          have h8 : L 8 = false := by cases hh : L 8 with | false => rfl | true => (have hq := q8 hh; simp [h7] at hq)
          refine wpOp_step rfl (fun K hK => ?_)
          go_simp
          exact hK _ _ ⟨_, _, _, _, _, _, _, _, _, _, rfl, (by first | exact p0 | exact fun _ => rfl), (by first | exact p1 | exact fun _ => rfl), (by first | exact p2 | exact fun _ => rfl), (by first | exact p3 | exact fun _ => rfl), (fun _ => rfl), (by first | exact p5 | exact fun _ => rfl), (by simp [h6]), (by simp [h8]), (by simp [h9]), (by simpa using q3), (by simp [h6]), (by simp [h7]), (by simp [h8]), (by simp [h9]), (by first | exact fun _ => rfl | exact n9), (by simpa [h6, h9, h7, h8] using hS)⟩
        · have h6 : L 6 = false := by cases hh : L 6 with | false => rfl | true => (have hq := q6 hh; simp [hi] at hq)
          have h9 : L 9 = false := by cases hh : L 9 with | false => rfl | true => (have hq := q9 hh; simp [hi] at hq)
          have h7 : L 7 = false := by cases hh : L 7 with | false => rfl | true => (have hq := q7 hh; simp [h6] at hq)
          have h8 : L 8 = false := by cases hh : L 8 with | false => rfl | true => (have hq := q8 hh; simp [h7] at hq)
          refine wpOp_step rfl (fun K hK => ?_)
          go_simp
          exact hK _ _ ⟨_, _, _, _, _, _, _, _, _, _, rfl, (by first | exact p0 | exact fun _ => rfl), (by first | exact p1 | exact fun _ => rfl), (by first | exact p2 | exact fun _ => rfl), (by first | exact p3 | exact fun _ => rfl), (by first | exact p4 | exact fun _ => rfl), (fun _ => rfl), (by simp [h6]), (by simp [h8]), (by simp [h9]), (by simpa using q3), (by simp [h6]), (by simp [h7]), (by simp [h8]), (by simp [h9]), (by first | exact fun _ => rfl | exact n9), (by simpa [h6, h9, h7, h8] using hS)⟩
        · have h7 : L 7 = false := by cases hh : L 7 with | false => rfl | true => (have hq := q7 hh; simp [hi] at hq)
          have h9 : L 9 = false := by cases hh : L 9 with | false => rfl | true => (have hq := q9 hh; simp [hi] at hq)
          have h8 : L 8 = false := by cases hh : L 8 with | false => rfl | true => (have hq := q8 hh; simp [h7] at hq)
          obtain rfl := p4 (by simp [he])
          obtain rfl := p5 (by simp [he])
          refine wpOp_step rfl (fun K hK => ?_)
          go_simp
          exact hK _ _ ⟨_, _, _, _, _, _, _, _, _, _, rfl, (by first | exact p0 | exact fun _ => rfl), (by first | exact p1 | exact fun _ => rfl), (by first | exact p2 | exact fun _ => rfl), (by first | exact p3 | exact fun _ => rfl), (by first | exact p4 | exact fun _ => rfl), (by first | exact p5 | exact fun _ => rfl), (fun _ => rfl), (by simp [h8]), (by simp [h9]), (by simpa using q3), (by simp [he]), (by simp [h7]), (by simp [h8]), (by simp [h9]), (by first | exact fun _ => rfl | exact n9), (by simpa [h7, h9, h8] using hS)⟩
        · have h8 : L 8 = false := by cases hh : L 8 with | false => rfl | true => (have hq := q8 hh; simp [hi] at hq)
          have h9 : L 9 = false := by cases hh : L 9 with | false => rfl | true => (have hq := q9 hh; simp [hi] at hq)
          obtain rfl := p3 (by simp [he])
          obtain rfl := p6 (by simp [he])
          rw [if_neg (by simp [hi])] at hS
          have hK := HCP.out w' hS
          obtain ⟨hcp, hN⟩ := hK
          refine wpOp_at rfl rfl ?_
          refine wp_copy_runI w' _ _ 34 34 rfl _ _ rfl rfl (hcp _) ?_
          exact ⟨_, _, _, _, _, _, _, _, _, _, rfl, (by first | exact p0 | exact fun _ => rfl), (by first | exact p1 | exact fun _ => rfl), (by first | exact p2 | exact fun _ => rfl), (by first | exact p3 | exact fun _ => rfl), (by first | exact p4 | exact fun _ => rfl), (by first | exact p5 | exact fun _ => rfl), (by first | exact p6 | exact fun _ => rfl), (by simp [h8]), (by simp [h9]), (by simpa using q3), (by simpa using q6), (by simp [he]), (by simp [h8]), (by simp [h9]), (by first | exact fun _ => rfl | exact n9), (by rw [if_pos (by simp)]; exact ⟨rfl, hN⟩)⟩
        · have h9 : L 9 = false := by cases hh : L 9 with | false => rfl | true => (have hq := q9 hh; simp [hi] at hq)
          obtain rfl := p0 (by simp [he])
          obtain rfl : x74 = .int .i64 (m : Int) := by
            rw [if_pos (by simp [he])] at hS
            exact hS.1
          refine wpOp_step rfl (fun K hK => ?_)
          go_simp
          exact hK _ _ ⟨_, _, _, _, _, _, _, _, _, _, rfl, (by first | exact p0 | exact fun _ => rfl), (by first | exact p1 | exact fun _ => rfl), (by first | exact p2 | exact fun _ => rfl), (by first | exact p3 | exact fun _ => rfl), (by first | exact p4 | exact fun _ => rfl), (by first | exact p5 | exact fun _ => rfl), (by first | exact p6 | exact fun _ => rfl), (fun _ => rfl), (by simp [h9]), (by simpa using q3), (by simpa using q6), (by simpa using q7), (by simp [he]), (by simp [h9]), (by first | exact fun _ => rfl | exact n9), (by simpa [h9] using hS)⟩
        · obtain rfl := p8 (by simp [he])
          refine wpOp_step rfl (fun K hK => ?_)
          go_simp
          exact hK _ _ ⟨_, _, _, _, _, _, _, _, _, _, rfl, (by first | exact p0 | exact fun _ => rfl), (by first | exact p1 | exact fun _ => rfl), (by first | exact p2 | exact fun _ => rfl), (by first | exact p3 | exact fun _ => rfl), (by first | exact p4 | exact fun _ => rfl), (by first | exact p5 | exact fun _ => rfl), (by first | exact p6 | exact fun _ => rfl), (by first | exact p8 | exact fun _ => rfl), (fun _ => rfl), (by simpa using q3), (by simpa using q6), (by simpa using q7), (by simpa using q8), (by simp [he]), (by simp), (by simpa using hS)⟩
      · rintro L ac w' ⟨x10, x67, x68, x69, x70, x71, x72, x73, x74, x75, ha, p0, p1, p2, p3, p4, p5, p6, p8, p9, q3, q6, q7, q8, q9, n9, hS⟩ hall
        have t7 := hall 7 (by decide)
        rw [if_pos t7] at hS
        obtain ⟨rfl, hS⟩ := hS
        obtain rfl := p0 (hall 0 (by decide))
        obtain rfl := p1 (hall 1 (by decide))
        obtain rfl := p2 (hall 2 (by decide))
        obtain rfl := p3 (hall 3 (by decide))
        obtain rfl := p4 (hall 4 (by decide))
        obtain rfl := p5 (hall 5 (by decide))
        obtain rfl := p6 (hall 6 (by decide))
        obtain rfl := p8 (hall 8 (by decide))
        obtain rfl := p9 (hall 9 (by decide))
        simp only [turn, List.foldl_cons, List.foldl_nil, List.setIfInBounds_toArray, List.set_cons_succ, List.set_cons_zero] at ha
        subst ha
        clear q3 q6 q7 q8 q9 n9 t7
        have S2 := Lib.hid hS
        clear hS
        go_wp2
        go_roundg (k - bp2)
        case measure => have := HB2.out; have := HM1.out; omega
        case rel => exact ⟨bp2, _, by have := HB2.out; omega, kb2, rfl, rfl, HL2, HT2, S2.out⟩
    · obtain rfl : bp = k := by omega
      go_wp2
      go_ret
      refine ⟨_, bp, Nat.le_refl _, rfl, HS.out.below, ?_⟩
      refine ⟨by simp, fun _ => ⟨g, 0, rfl, Blk.lt (HS.out.blk 0 rfl), fun j u hj => ?_⟩⟩
      rw [Nat.zero_add]
      refine HS.out.cell 0 rfl ?_
      rw [← HT.out, List.getElem?_take] at hj
      split at hj
      · exact hj
      · cases hj
end Go.Proofs.Ytakmfjnfkjdbfab
