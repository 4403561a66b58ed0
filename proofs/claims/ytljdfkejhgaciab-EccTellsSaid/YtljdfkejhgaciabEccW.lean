/-
  Walks of package ecc and of its reference, but for the mending. Conditions: none.
-/
import Derived.Test.YtljdfkejhgaciabEccM
import Derived.Test.YtljdfkejhgaciabBlk
import Derived.Test.YtljdfkejhgaciabBits
import Derived.Lib.BitFns
namespace Go.Proofs.Ytljdfkejhgaciab
open Go.RowKit
namespace Ecc

theorem i64_and_nat (a b : Nat) (ha : a < 9223372036854775808) (hb : b < 9223372036854775808) : bits .and .i64 (a : Int) (b : Int) = ((a &&& b : Nat) : Int) := by
  have hx : a &&& b ≤ a := Nat.and_le_left
  show IntKind.i64.wrap ((BitVec.ofInt 64 (a : Int) &&& BitVec.ofInt 64 (b : Int)).toNat : Int) = _
  rw [BitVec.toNat_and, ofInt_i64 a ha, ofInt_i64 b hb, IntKind.wrap_i64]
  omega

theorem ones_bridge : ∀ b : Fin 256, Lib.onesCount b.val = pop8 b.val := by decide +kernel
set_option maxRecDepth 100000 in
theorem ones8_int (x : Int) (w : World) (h0 : 0 ≤ x) (h1 : x ≤ 255) : Calls Try.prog 43 #[.int .u8 x] w fun e w' => e = .returned (.int .i64 (Lib.onesCount x.toNat)) ∧ w = w' := by
  rw [← Lib.pop8_int x h0 h1]
  go_enter Try.func43, Try.ntmps43
  go_wp2
  go_ret
  refine ⟨?_, rfl⟩
  show Ending.returned (Value.int .i64 (wrap64 (Lib.pop8 x))) = _
  rw [wrap64]
theorem ones8_any (x : Nat) (hx : x < 256) (w : World) : Calls Try.prog 43 #[.int .u8 (x : Int)] w fun e w' => e = .returned (.int .i64 (pop8 x : Int)) ∧ w = w' := by
  have := ones8_int (x : Int) w (by omega) (by omega)
  rw [Int.toNat_natCast, ones_bridge ⟨x, hx⟩] at this
  exact this

set_option maxHeartbeats 800000 in
theorem ones64_any (d : Nat) (hd : d < 18446744073709551616) (w : World) : Calls Try.prog 42 #[.int .u64 (d : Int)] w fun e w' => e = .returned (.int .i64 (onesN 64 d : Int)) ∧ w = w' := by
  have HS := swar_all d hd
  unfold swarE swar3 swar2 swar1 at HS
  simp only at HS
  have e1 : bits .and .u64 ((d : Int) / 2) 6148914691236517205 = ((d / 2 &&& 6148914691236517205 : Nat) : Int) := u64_and_nat (d / 2) 6148914691236517205 (by omega) (by omega)
  have e2 : bits .and .u64 (d : Int) 6148914691236517205 = ((d &&& 6148914691236517205 : Nat) : Int) := u64_and_nat d 6148914691236517205 (by omega) (by omega)
  have l1 : d / 2 &&& 6148914691236517205 ≤ 6148914691236517205 := Nat.and_le_right
  have l2 : d &&& 6148914691236517205 ≤ 6148914691236517205 := Nat.and_le_right
  generalize d / 2 &&& 6148914691236517205 = a at HS e1 l1
  generalize d &&& 6148914691236517205 = b at HS e2 l2
  have e3 : bits .and .u64 (((a : Int) + (b : Int)) / 4) 3689348814741910323 = (((a + b) / 4 &&& 3689348814741910323 : Nat) : Int) := u64_and_nat ((a + b) / 4) 3689348814741910323 (by omega) (by omega)
  have e4 : bits .and .u64 ((a : Int) + (b : Int)) 3689348814741910323 = ((a + b &&& 3689348814741910323 : Nat) : Int) := u64_and_nat (a + b) 3689348814741910323 (by omega) (by omega)
  have l3 : (a + b) / 4 &&& 3689348814741910323 ≤ 3689348814741910323 := Nat.and_le_right
  have l4 : a + b &&& 3689348814741910323 ≤ 3689348814741910323 := Nat.and_le_right
  generalize (a + b) / 4 &&& 3689348814741910323 = a' at HS e3 l3
  generalize a + b &&& 3689348814741910323 = b' at HS e4 l4
  have e5 : bits .and .u64 (((a' : Int) + (b' : Int)) / 16 + ((a' : Int) + (b' : Int))) 1085102592571150095 = (((a' + b') / 16 + (a' + b') &&& 1085102592571150095 : Nat) : Int) := u64_and_nat ((a' + b') / 16 + (a' + b')) 1085102592571150095 (by omega) (by omega)
  have l5 : (a' + b') / 16 + (a' + b') &&& 1085102592571150095 ≤ 1085102592571150095 := Nat.and_le_right
  generalize (a' + b') / 16 + (a' + b') &&& 1085102592571150095 = c at HS e5 l5
  have e6 : bits .and .i64 ((c : Int) + (c : Int) / 256 + ((c : Int) + (c : Int) / 256) / 65536 + ((c : Int) + (c : Int) / 256 + ((c : Int) + (c : Int) / 256) / 65536) / 4294967296) 127 = (onesN 64 d : Int) := by
    rw [← HS]
    have := i64_and_nat (c + c / 256 + (c + c / 256) / 65536 + (c + c / 256 + (c + c / 256) / 65536) / 4294967296) 127 (by omega) (by omega)
    rw [show (127 : Nat) = 2 ^ 7 - 1 from rfl, Nat.and_two_pow_sub_one_eq_mod] at this
    exact this
  generalize onesN 64 d = o at e6
  clear HS
  go_enter Try.func42, Try.ntmps42
  go_wp2
  go_ret
  exact ⟨rfl, rfl⟩

def byteV (x : Nat) : Value := .int .u8 (x : Int)
def posK (k : Nat) : List Nat := posL.take k ++ List.replicate (64 - k) 0
def nxt (k : Nat) : Nat := if k = 0 then 3 else pos (k - 1) + 1
theorem posK_set (k : Nat) (hk : k < 64) : (posK k).set k (pos k) = posK (k + 1) := by
  have : ∀ k : Fin 64, (posK k.val).set k.val (pos k.val) = posK (k.val + 1) := by decide +kernel
  exact this ⟨k, hk⟩
theorem posK_at (k : Nat) (hk : k < 64) : (posK k)[k]? = some 0 := by
  have : ∀ k : Fin 64, (posK k.val)[k.val]? = some 0 := by decide +kernel
  exact this ⟨k, hk⟩
theorem posK_len (k : Nat) (hk : k ≤ 64) : (posK k).length = 64 := by
  simp [posK, posL]
  omega
theorem nxt_or (k : Nat) (hk : k < 64) : nxt k = pos k ∨ (nxt k + 1 = pos k ∧ nxt k &&& (nxt k - 1) = 0) := by
  have : ∀ k : Fin 64, nxt k.val = pos k.val ∨ (nxt k.val + 1 = pos k.val ∧ nxt k.val &&& (nxt k.val - 1) = 0) := by decide +kernel
  exact this ⟨k, hk⟩
theorem pos_and (k : Nat) (hk : k < 64) : 3 ≤ pos k ∧ pos k ≤ 71 ∧ pos k &&& (pos k - 1) ≠ 0 := by
  have : ∀ k : Fin 64, 3 ≤ pos k.val ∧ pos k.val ≤ 71 ∧ pos k.val &&& (pos k.val - 1) ≠ 0 := by decide +kernel
  exact this ⟨k, hk⟩
theorem map_set_byte (l : List Nat) (k x : Nat) : (l.map byteV).set k (.int .u8 (x : Int)) = (l.set k x).map byteV := by rw [List.map_set]; rfl
theorem map_at_byte {l : List Nat} {k x : Nat} (h : l[k]? = some x) : (l.map byteV)[k]? = some (.int .u8 (x : Int)) := by rw [List.getElem?_map, h]; rfl
def bz : List Nat := posK 0
def posV : Value := .agg (posL.map byteV).toArray
theorem posK_full : posK 64 = posL := by decide
theorem info64 : (Try.prog.info? 56).map (·.size) = some (posL.map byteV).length := by kernel_rfl
theorem one64 (l : List Nat) : (l.map byteV).toArray.all (·.oneCell') = true := by
  rw [Array.all_eq_true_iff_forall_mem]
  intro v hv
  simp at hv
  obtain ⟨x, _, rfl⟩ := hv
  rfl

set_option maxHeartbeats 1600000 in
theorem positions_any (w : World) : Calls Try.prog 41 #[] w (Ret w posV) := by
  have F0 : Hid (Blk ((w.alloc (.cells ((posK 0).map byteV).toArray 56)).alloc (.cells ((posK 0).map byteV).toArray 56)) w.heap.size 56 ((posK 0).map byteV)) := Lib.hid ((Blk.new w _ _).alloc _)
  have F1 : Hid (Blk ((w.alloc (.cells ((posK 0).map byteV).toArray 56)).alloc (.cells ((posK 0).map byteV).toArray 56)) (w.heap.size + 1) 56 ((posK 0).map byteV)) := Lib.hid (by
    have := Blk.new (w.alloc (.cells ((posK 0).map byteV).toArray 56)) 56 ((posK 0).map byteV)
    rwa [show (w.alloc (.cells ((posK 0).map byteV).toArray 56)).heap.size = w.heap.size + 1 by simp] at this)
  have hB0 : Below w.heap.size w ((w.alloc (.cells ((posK 0).map byteV).toArray 56)).alloc (.cells ((posK 0).map byteV).toArray 56)) := ((Below.refl _ _).alloc (Nat.le_refl _) _).alloc (by simp) _
  go_enter Try.func41, Try.ntmps41
  go_wp2
  go_loopg [2, 4] 64 (fun g p i wr => ∃ k : Nat, k ≤ 64 ∧ g = 64 - k ∧ i = .int .i64 k ∧ p = .int .u8 (nxt k : Int) ∧ Blk wr w.heap.size 56 ((posK 0).map byteV) ∧ Blk wr (w.heap.size + 1) 56 ((posK k).map byteV) ∧ Below w.heap.size w wr)
  case atStart => exact ⟨0, by omega, rfl, rfl, rfl, F0.out, F1.out, hB0⟩
  case round =>
    obtain ⟨k, hk, rfl, rfl, rfl, hz, hp, hB⟩ := hrel
    have HZ := Lib.hid hz
    have HP := Lib.hid hp
    have hz1 := hp.lt
    clear hz hp F0 F1 hB0
    by_cases hlt : k < 64
    · obtain ⟨p3, p71, pne⟩ := pos_and k hlt
      have hor := nxt_or k hlt
      have HN : Hid (nxt (k + 1) = pos k + 1) := Lib.hid (by simp [nxt])
      generalize nxt k = x at hor ⊢
      have hc := map_at_byte (posK_at k hlt)
      have hst := map_set_byte (posK k) k (pos k)
      rw [posK_set k hlt] at hst
      have HST := Lib.hid hst
      have u0 := HP.out.froz (k := k)
      have u1 := HP.out.cell hc
      have i0 : (0 : Int) ≤ (k : Int) := by omega
      have i1 : (k : Int) < 64 := by omega
      have hx3 : 2 ≤ x ∧ x ≤ 71 := by omega
      have hxb : bits .and .u8 (x : Int) ((x : Int) - 1) = ((x &&& (x - 1) : Nat) : Int) := by
        have := u8_and_nat x (x - 1) (by omega) (by omega)
        rwa [show ((x - 1 : Nat) : Int) = (x : Int) - 1 by omega] at this
      have hpb : bits .and .u8 (pos k : Int) ((pos k : Int) - 1) = ((pos k &&& (pos k - 1) : Nat) : Int) := by
        have := u8_and_nat (pos k) (pos k - 1) (by omega) (by omega)
        rwa [show ((pos k - 1 : Nat) : Int) = (pos k : Int) - 1 by omega] at this
      have htp : (((pos k &&& (pos k - 1) : Nat) : Int) == 0) = false := by simpa using pne
      have hS : Blk (wr.setCell ⟨w.heap.size + 1, k, none⟩ (.int .u8 (pos k : Int))) (w.heap.size + 1) 56 ((posK (k + 1)).map byteV) := by
        have := HP.out.set (k := k) (.int .u8 (pos k : Int))
        rwa [hst] at this
      have hS' := HZ.out.other (g' := w.heap.size + 1) (k := k) (by omega) (.int .u8 (pos k : Int))
      have hB1 := hB.setCell (p := ⟨w.heap.size + 1, k, none⟩) (by simp) (.int .u8 (pos k : Int))
      have HS := Lib.hid hS
      have HS' := Lib.hid hS'
      generalize pos k &&& (pos k - 1) = pz at hpb htp pne
      have HOR := Lib.hid hor
      clear hc hst hS hS' hor
      obtain ⟨wo, rfl⟩ : ∃ wo : World, wo = wr := ⟨_, rfl⟩
      rcases HOR.out with hx | ⟨hx, hx0⟩
      · subst hx
        clear HOR hxb hx3
        go_wp2
        go_loopg [2] 1 (fun g p wi => p = .int .u8 (pos k : Int) ∧ wi = wo)
        case atStart => exact ⟨rfl, rfl⟩
        case round =>
          obtain ⟨rfl, rfl⟩ := hrel
          go_wp2
          go_roundg (64 - (k + 1))
          case measure => omega
          case rel => exact ⟨k + 1, by omega, rfl, by go_num, int_eq (by rw [HN.out]; push_cast; rfl), HS'.out, HS.out, hB1⟩
      · rw [hx0] at hxb
        have e1 : (x : Int) + 1 = (pos k : Int) := by omega
        clear HOR hx0
        go_wp2
        go_loopg [2] 1 (fun g p wi => ((g = 1 ∧ p = .int .u8 (x : Int)) ∨ (g = 0 ∧ p = .int .u8 (pos k : Int))) ∧ wi = wo)
        case atStart => exact ⟨.inl ⟨rfl, rfl⟩, rfl⟩
        case round =>
          obtain ⟨⟨rfl, rfl⟩ | ⟨rfl, rfl⟩, rfl⟩ := hrel
          · have E1 := Lib.hid e1
            clear e1 hx
            go_wp2
            go_roundg 0
            case measure => omega
            case rel => exact ⟨.inr ⟨rfl, int_eq (by rw [E1.out])⟩, rfl⟩
          · clear e1 hx hxb
            go_wp2
            go_roundg (64 - (k + 1))
            case measure => omega
            case rel => exact ⟨k + 1, by omega, rfl, by go_num, int_eq (by rw [HN.out]; push_cast; rfl), HS'.out, HS.out, hB1⟩
    · obtain rfl : k = 64 := by omega
      rw [posK_full] at HP
      clear hlt hk
      go_wp2_with (first
        | refine wpList_load_row rfl 56 (.tmp 1) rfl (w.heap.size + 1) rfl 56 (posL.map byteV).toArray (0, 0) (.array 64 5) HP.out Try.underlying56 rfl info64 ?_
        | refine wpList_store_row rfl 56 (.tmp 0) (.tmp 20) rfl w.heap.size (posL.map byteV).toArray rfl rfl 56 ((posK 0).map byteV).toArray HZ.out info64 (by decide) (one64 posL) ?_)
      have hld := (HZ.out.row (posL.map byteV)).load Try.underlying56 info64
      have hB3 := below_row hB (Nat.le_refl _) (posL.map byteV).toArray
      refine bodyPost_ret (v := posV) ?_ rfl ?_
      · simp [results, Try.results41, Act.put, asAddr, posV, hld]
      · exact ⟨rfl, hB3⟩

theorem index_pos (k : Nat) (hk : k < 64) (w : World) : (Instr.index 56 posV (.int .i64 (k : Int))).run Try.prog w = .ok (.int .u8 (pos k : Int)) w := by
  refine run_index_one Try.underlying56 (fun _ => rfl) (fun _ => rfl) hk ?_ w
  have : ∀ k : Fin 64, posL[k.val]? = some (pos k.val) := by decide +kernel
  simp only [List.getElem?_toArray]
  exact map_at_byte (this ⟨k, hk⟩)

theorem shr_bit (d k : Nat) (hd : d < 18446744073709551616) : bits .and .u64 ((d : Int) / 2 ^ k) 1 = ((d / 2 ^ k % 2 : Nat) : Int) := by
  have := u64_and_nat (d / 2 ^ k) 1 (Nat.lt_of_le_of_lt (Nat.div_le_self _ _) hd) (by omega)
  rw [show d / 2 ^ k &&& 1 = d / 2 ^ k % 2 from Nat.and_two_pow_sub_one_eq_mod _ 1] at this
  rw [← this]
  push_cast
  rfl

set_option maxHeartbeats 1600000 in
theorem check_any (d : Nat) (hd : d < 18446744073709551616) (w : World) : Calls Try.prog 33 #[.int .u64 (d : Int)] w (Ret w (.int .u8 (checkN d : Int))) := by
  have ip := index_pos
  have hsr := fun k => shr_bit d k hd
  go_enter Try.func33, Try.ntmps33
  go_wp2_with fail
  refine (positions_any _).mono ?_; rintro e w1 ⟨rfl, hb1⟩
  have HB1 := Lib.hid hb1
  obtain ⟨pv, hpv⟩ : ∃ pv, pv = posV := ⟨_, rfl⟩
  rw [← hpv] at ip ⊢
  clear hpv hb1
  have HIP := Lib.hid ip
  have HSR := Lib.hid hsr
  clear ip hsr
  go_wp2_with fail
  go_loopg [3, 7] 64 (fun g c i wr => ∃ k : Nat, k ≤ 64 ∧ g = 64 - k ∧ i = .int .i64 k ∧ c = .int .u8 (xorN k d : Int) ∧ wr = w1)
  case atStart => exact ⟨0, by omega, rfl, rfl, rfl, rfl⟩
  case round =>
    obtain ⟨k, hk, rfl, rfl, rfl, rfl⟩ := hrel
    by_cases hlt : k < 64
    · have ik := HIP.out k hlt
      have sk := HSR.out k
      have hx := xorN_lt d k
      have hp := pos_lt k
      have i0 : (0 : Int) ≤ (k : Int) := by omega
      have i1 : (k : Int) < 64 := by omega
      have ex : bits .xor .u8 (xorN k d : Int) (pos k : Int) = ((xorN k d ^^^ pos k : Nat) : Int) := u8_xor_nat _ _ (by omega) (by omega)
      by_cases hbit : d / 2 ^ k % 2 = 1
      · have HN : Hid (xorN (k + 1) d = xorN k d ^^^ pos k) := Lib.hid (by rw [xorN, if_pos hbit])
        rw [hbit] at sk
        clear hbit
        generalize xorN k d = x at hx ex HN ⊢
        generalize pos k = p at hp ex HN ik
        go_wp2
        go_roundg (64 - (k + 1))
        case measure => omega
        case rel => exact ⟨k + 1, by omega, rfl, by go_num, int_eq (by rw [HN.out]), rfl⟩
      · have HN : Hid (xorN (k + 1) d = xorN k d) := Lib.hid (by rw [xorN, if_neg hbit])
        rw [show d / 2 ^ k % 2 = 0 by omega] at sk
        clear hbit ex
        generalize xorN k d = x at hx HN ⊢
        go_wp2
        go_roundg (64 - (k + 1))
        case measure => omega
        case rel => exact ⟨k + 1, by omega, rfl, by go_num, int_eq (by rw [HN.out]), rfl⟩
    · obtain rfl : k = 64 := by omega
      have hx := xorN_lt d 64
      have hol := ones_le d 64
      have hpl := pop8_le (xorN 64 d)
      have HC : Hid (checkN d = xorN 64 d + 128 * ((onesN 64 d + pop8 (xorN 64 d)) % 2)) := Lib.hid rfl
      have c1 := Lib.hid (fun W => ones64_any d hd W)
      have c2 := Lib.hid (fun W => ones8_any (xorN 64 d) (by omega) W)
      have eo : bits .or .u8 (xorN 64 d : Int) 128 = ((xorN 64 d + 128 : Nat) : Int) := by
        have := u8_or_nat (xorN 64 d) 128 (by omega) (by omega)
        rw [Nat.or_comm, nat_join 7 128 (xorN 64 d) (by decide) (by omega), Nat.add_comm] at this
        exact this
      generalize xorN 64 d = x at hx hpl HC c2 eo ⊢
      generalize onesN 64 d = o at hol HC c1
      generalize pop8 x = q at hpl HC c2
      clear hlt hk
      by_cases hpar : (o + q) % 2 = 1
      · have e1 : ((((o : Int) + (q : Int)) % 2) == 1) = true := by simp; omega
        have HE : Hid (checkN d = x + 128) := Lib.hid (by rw [HC.out, hpar])
        clear hpar HC
        go_wp2_with (first
          | (go_at_call 42; refine (c1.out _).mono ?_; rintro e w2 ⟨rfl, rfl⟩)
          | (go_at_call 43; refine (c2.out _).mono ?_; rintro e w2 ⟨rfl, rfl⟩))
        go_ret
        exact Ret.mk (int_eq (by simp only [HE.out, Int.natCast_add]; rfl)) HB1.out
      · have e1 : ((((o : Int) + (q : Int)) % 2) == 1) = false := by simp; omega
        have HE : Hid (checkN d = x) := Lib.hid (by rw [HC.out, show (o + q) % 2 = 0 by omega]; rfl)
        clear hpar HC eo
        go_wp2_with (first
          | (go_at_call 42; refine (c1.out _).mono ?_; rintro e w2 ⟨rfl, rfl⟩)
          | (go_at_call 43; refine (c2.out _).mono ?_; rintro e w2 ⟨rfl, rfl⟩))
        go_ret
        exact Ret.mk (int_eq (by simp only [HE.out])) HB1.out
end Ecc
end Go.Proofs.Ytljdfkejhgaciab
