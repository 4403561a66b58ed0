/-
  Walks of crc.Sum, crc.Seal and crc.Open, and the sum's law. Conditions: none beyond each theorem's own premises.
-/
import Derived.Test.YtgfldhdmdeeknaaGreatDoorStrB
import Derived.Test.YtgfldhdmdeeknaaGreatDoorBits
import Derived.IntWalk
namespace Go.Proofs.YtgfldhdmdeeknaaGreatDoor
set_option maxRecDepth 100000
open Go.RowKit
theorem clone_any (A : Option Addr) (n c : Nat) (l : List Nat) (w : World) (hr : Rd w w.heap.size 1 A n (l.flatMap bcell)) (hn : n ≤ 140737488355328) :
    Calls Tryz.prog 12 #[.slice A n c] w (OwnRet w 5 1 n (l.flatMap bcell)) := by
  obtain ⟨i0, hi, hz0, hz1, hz2⟩ := info_parts byte_info
  have hsn := fun w => Lib.run_eql_slice_nil (P := Tryz.prog) w 22 5 A n c 0 0 Tryz.underlying22
  have HR := Lib.hid hr
  cases A with
  | none =>
    have hn0 : n = 0 := by
      rcases Nat.eq_zero_or_pos n with h0 | h0
      · exact h0
      · obtain ⟨_, _, h, _⟩ := hr.2 h0
        cases h
    subst hn0
    have hl : l.flatMap bcell = [] := List.eq_nil_of_length_eq_zero (by have := hr.1; omega)
    have HL := Lib.hid hl
    clear hr hl
    go_enter Tryz.func12, Tryz.ntmps12
    go_wp2
    go_ret
    exact ⟨_, rfl, by rw [HL.out]; exact own_none, Below.refl _ _⟩
  | some ad =>
    clear hr
    go_enter Tryz.func12, Tryz.ntmps12
    go_wp2_with (at_builtin; refine wpList_append_rd _ rfl (.tmp 5) (.tmp 6) 22 rfl w.heap.size 5 i0 (.int .u8 0) 1 1 Tryz.underlying22 hi hz0 hz1 hz2 rfl (by omega) (.slice (some ⟨w.heap.size, 0, none⟩) 0 0) 0 [] rfl (own_new w _ #[] 1 0 rfl (by simp [maxLen]) (Nat.le_refl _)) w.heap.size (some ad) n c (l.flatMap bcell) rfl (HR.out.below' ((Below.refl _ _).alloc (Nat.le_refl _) _) (Nat.le_refl _)) (bcell_one l) (by simp only [maxLen]; omega) (by omega) (by simp) ?_; intro v1 w1 hown1 hg1 hat1)
    go_ret
    refine ⟨v1, rfl, by simpa using hown1, ((Below.refl _ _).alloc (Nat.le_refl _) _).grown hg1 (by simp) (fun k hk => by simp [Value.ownBlock] at hk; omega)⟩
end Go.Proofs.YtgfldhdmdeeknaaGreatDoor
namespace Go.Proofs.YtgfldhdmdeeknaaGreatDoor
set_option maxRecDepth 100000
namespace Crc

def stepS (s : Nat) : Nat := if s / 32768 = 1 then (s * 2 % 65536) ^^^ 4129 else s * 2 % 65536
def stepB (x bit : Nat) : Nat := if x / 32768 ≠ bit then (x * 2 % 65536) ^^^ 4129 else x * 2 % 65536
def iterS : Nat → Nat → Nat
  | 0, s => s
  | k + 1, s => iterS k (stepS s)
/-- the bits of c from k - 1 down -/
def iterB (c : Nat) : Nat → Nat → Nat
  | 0, x => x
  | k + 1, x => iterB c k (stepB x (c / 2 ^ k % 2))
def byteS (s c : Nat) : Nat := iterS 8 (s ^^^ (c * 256))
def byteB (x c : Nat) : Nat := iterB c 8 x
def sumS (s : Nat) : List Nat → Nat
  | [] => s
  | c :: t => sumS (byteS s c) t
def sumB (s : Nat) : List Nat → Nat
  | [] => s
  | c :: t => sumB (byteB s c) t

theorem xor_lt {a b : Nat} (ha : a < 65536) (hb : b < 65536) : a ^^^ b < 65536 := Nat.xor_lt_two_pow (n := 16) ha hb
theorem stepS_lt (s : Nat) : stepS s < 65536 := by
  unfold stepS
  split
  · exact xor_lt (Nat.mod_lt _ (by omega)) (by omega)
  · exact Nat.mod_lt _ (by omega)
theorem stepB_lt (s b : Nat) : stepB s b < 65536 := by
  unfold stepB
  split
  · exact xor_lt (Nat.mod_lt _ (by omega)) (by omega)
  · exact Nat.mod_lt _ (by omega)
theorem iterS_lt : ∀ (k s : Nat), s < 65536 → iterS k s < 65536
  | 0, _, h => h
  | k + 1, s, _ => iterS_lt k _ (stepS_lt s)
theorem iterB_lt (c : Nat) : ∀ (k s : Nat), s < 65536 → iterB c k s < 65536
  | 0, _, h => h
  | k + 1, s, _ => iterB_lt c k _ (stepB_lt s _)
theorem byteS_lt {s c : Nat} (hs : s < 65536) (hc : c < 256) : byteS s c < 65536 := iterS_lt _ _ (xor_lt hs (by omega))
theorem byteB_lt {s c : Nat} (hs : s < 65536) : byteB s c < 65536 := iterB_lt _ _ _ hs

theorem step_xor {a t : Nat} (ha : a < 65536) (ht : t < 65536) : stepS (a ^^^ t) = stepB a (t / 32768) ^^^ (t * 2 % 65536) := by
  have e1 : (a ^^^ t) / 32768 = (a / 32768) ^^^ (t / 32768) := by
    have := @Nat.shiftRight_xor_distrib 15 a t
    simpa [Nat.shiftRight_eq_div_pow] using this
  have e2 : (a ^^^ t) * 2 % 65536 = (a * 2 % 65536) ^^^ (t * 2 % 65536) := by
    have h1 := @Nat.shiftLeft_xor_distrib 1 a t
    have h2 := Nat.xor_mod_two_pow (a := a * 2) (b := t * 2) (n := 16)
    simp only [Nat.shiftLeft_eq, Nat.pow_one] at h1
    rw [h1]
    exact h2
  unfold stepS stepB
  rw [e1, e2]
  have a1 : a / 32768 < 2 := by omega
  have t1 : t / 32768 < 2 := by omega
  have ha' : a / 32768 = 0 ∨ a / 32768 = 1 := by omega
  have ht' : t / 32768 = 0 ∨ t / 32768 = 1 := by omega
  rcases ha' with h | h <;> rcases ht' with h' | h' <;> simp [h, h', Nat.xor_assoc, Nat.xor_comm 4129]

theorem top_bit {c k : Nat} (hk : k < 8) (hc : c < 256) : (c * 2 ^ (15 - k) % 65536) / 32768 = c / 2 ^ k % 2 := by
  match k, hk with
  | 0, _ => simp; omega
  | 1, _ => simp; omega
  | 2, _ => simp; omega
  | 3, _ => simp; omega
  | 4, _ => simp; omega
  | 5, _ => simp; omega
  | 6, _ => simp; omega
  | 7, _ => simp; omega

theorem iter_eq {c : Nat} (hc : c < 256) : ∀ (k a : Nat), k ≤ 8 → a < 65536 → iterS k (a ^^^ (c * 2 ^ (16 - k) % 65536)) = iterB c k a
  | 0, a, _, _ => by
    have : c * 2 ^ (16 - 0) % 65536 = 0 := Nat.mod_eq_zero_of_dvd ⟨c, by simp [Nat.mul_comm]⟩
    rw [this]
    simp [iterS, iterB]
  | k + 1, a, hk, ha => by
    rw [iterS, iterB, step_xor ha (Nat.mod_lt _ (by omega)), show 16 - (k + 1) = 15 - k by omega, top_bit (by omega) hc]
    have e : c * 2 ^ (15 - k) % 65536 * 2 % 65536 = c * 2 ^ (16 - k) % 65536 := by
      rw [Nat.mod_mul_mod, Nat.mul_assoc, ← Nat.pow_succ, show (15 - k).succ = 16 - k by omega]
    rw [e]
    exact iter_eq hc k _ (by omega) (stepB_lt _ _)

theorem byte_eq {s c : Nat} (hs : s < 65536) (hc : c < 256) : byteS s c = byteB s c := by
  have := iter_eq hc 8 s (Nat.le_refl _) hs
  rw [show c * 2 ^ (16 - 8) % 65536 = c * 256 by simp; omega] at this
  exact this

theorem sum_eq : ∀ (l : List Nat) (s : Nat), s < 65536 → (∀ c ∈ l, c < 256) → sumS s l = sumB s l
  | [], _, _, _ => rfl
  | c :: t, s, hs, hl => by
    rw [sumS, sumB, byte_eq hs (hl c (by simp))]
    exact sum_eq t _ (byteB_lt hs) (fun x hx => hl x (by simp [hx]))
theorem sumB_lt : ∀ (l : List Nat) (s : Nat), s < 65536 → sumB s l < 65536
  | [], _, h => h
  | _ :: t, _, h => sumB_lt t _ (byteB_lt h)
end Crc
end Go.Proofs.YtgfldhdmdeeknaaGreatDoor
namespace Go.Proofs.YtgfldhdmdeeknaaGreatDoor
set_option maxRecDepth 100000
open Go.RowKit
namespace Crc

theorem drop_at {α : Type} {l : List α} {k : Nat} {x : α} (h : l[k]? = some x) : l.drop k = x :: l.drop (k + 1) := by
  obtain ⟨hk, rfl⟩ := List.getElem?_eq_some_iff.1 h
  exact List.drop_eq_getElem_cons hk

set_option maxHeartbeats 800000 in
theorem sum_any (s : Nat) (A : Option Addr) (n c : Nat) (l : List Nat) (w : World) (hs : s < 65536) (hr : Rd w w.heap.size 1 A n (l.flatMap bcell)) (hl : l.length = n) (hn : n ≤ 9223372036854775807) (hb : ∀ x ∈ l, x < 256) :
    Calls Tryz.prog 11 #[.int .u16 (s : Int), .slice A n c] w (Ret w (.int .u16 (sumS s l : Int))) := by
  have HR := Lib.hid hr
  have HL := Lib.hid hl
  have HB := Lib.hid hb
  clear hr hl hb
  go_enter Tryz.func11, Tryz.ntmps11
  go_wp2
  go_loopg [0, 10] n (fun g v i wr => ∃ k x : Nat, k ≤ n ∧ g = n - k ∧ i = .int .i64 k ∧ v = .int .u16 (x : Int) ∧ x < 65536 ∧ Hid (sumS s l = sumS x (l.drop k)) ∧ Below w.heap.size w wr)
  case atStart => exact ⟨0, s, Nat.zero_le _, rfl, rfl, rfl, hs, Lib.hid rfl, Below.refl _ _⟩
  case round =>
    obtain ⟨k, x, hk, rfl, rfl, rfl, hx, HM, hB⟩ := hrel
    by_cases hlt : k < n
    · have hn0 : 0 < n := by omega
      obtain ⟨b, off, rfl, hb, hc⟩ := HR.out.at_ bcell_len hn0
      obtain ⟨y, hy⟩ : ∃ y, l[k]? = some y := ⟨_, List.getElem?_eq_getElem (by rw [HL.out]; exact hlt)⟩
      have c0 : wr.cell? ⟨b, off + k, none⟩ = some (.int .u8 (y : Int)) := (hB.cell hb).trans (by have := hc k 0 y _ hy rfl; simpa using this)
      have hy8 : y < 256 := HB.out y (List.mem_of_getElem? hy)
      have HY := Lib.hid (drop_at hy)
      clear hc hy
      have ex : bits .xor .u16 (x : Int) ((y : Int) * 256) = ((x ^^^ (y * 256) : Nat) : Int) := by
        have := u16_xor_nat x (y * 256) hx (by omega)
        rwa [show ((y * 256 : Nat) : Int) = (y : Int) * 256 by omega] at this
      have hx0 : x ^^^ (y * 256) < 65536 := xor_lt hx (by omega)
      have HZ : Hid (byteS x y = iterS 8 (x ^^^ (y * 256))) := Lib.hid rfl
      generalize x ^^^ (y * 256) = z0 at ex hx0 HZ
      obtain ⟨wo, rfl⟩ : ∃ wo : World, wo = wr := ⟨_, rfl⟩
      go_wp2
      go_loopg [0, 19] 8 (fun g v i wi => ∃ j z : Nat, j ≤ 8 ∧ g = 8 - j ∧ i = .int .i64 j ∧ v = .int .u16 (z : Int) ∧ z < 65536 ∧ Hid (byteS x y = iterS (8 - j) z) ∧ Below w.heap.size w wi)
      case atStart => exact ⟨0, z0, by omega, rfl, rfl, rfl, hx0, HZ, hB⟩
      case round =>
        obtain ⟨j, z, hj, rfl, rfl, rfl, hz, HJ, hBi⟩ := hrel
        clear ex
        by_cases hj8 : j < 8
        · have hst : Hid (byteS x y = iterS (8 - (j + 1)) (stepS z)) := Lib.hid (by rw [HJ.out, show 8 - j = (8 - (j + 1)) + 1 by omega, iterS])
          by_cases ht : z / 32768 = 1
          · have ht' : (((z : Int) / 32768) == 1) = true := by simp; omega
            obtain ⟨q, hq⟩ : ∃ q, q = z * 2 % 65536 := ⟨_, rfl⟩
            have ew : IntKind.u16.wrap ((z : Int) * 2) = (q : Int) := by rw [IntKind.wrap_u16]; omega
            have e2 : bits .xor .u16 (q : Int) 4129 = ((q ^^^ 4129 : Nat) : Int) := u16_xor_nat q 4129 (by omega) (by omega)
            obtain ⟨r, hr⟩ : ∃ r, r = q ^^^ 4129 := ⟨_, rfl⟩
            rw [← hr] at e2
            have e1 : Hid (stepS z = r) := Lib.hid (by rw [stepS, if_pos ht, hr, hq])
            clear ht hq hr
            go_wp2
            go_roundg (8 - (j + 1))
            case measure => omega
            case rel => exact ⟨j + 1, stepS z, by omega, rfl, by go_num, int_eq (by rw [e1.out]), stepS_lt _, hst, hBi⟩
          · have ht' : (((z : Int) / 32768) == 1) = false := by simp; omega
            obtain ⟨q, hq⟩ : ∃ q, q = z * 2 % 65536 := ⟨_, rfl⟩
            have ew : IntKind.u16.wrap ((z : Int) * 2) = (q : Int) := by rw [IntKind.wrap_u16]; omega
            have e1 : Hid (stepS z = q) := Lib.hid (by rw [stepS, if_neg ht, hq])
            clear ht hq
            go_wp2
            go_roundg (8 - (j + 1))
            case measure => omega
            case rel => exact ⟨j + 1, stepS z, by omega, rfl, by go_num, int_eq (by rw [e1.out]), stepS_lt _, hst, hBi⟩
        · obtain rfl : j = 8 := by omega
          have HF : Hid (sumS s l = sumS z (l.drop (k + 1))) := Lib.hid (by rw [HM.out, HY.out, sumS, HJ.out]; rfl)
          go_wp2
          go_roundg (n - (k + 1))
          case measure => omega
          case rel => exact ⟨k + 1, z, by omega, rfl, by go_num, rfl, hz, HF, hBi⟩
    · go_wp2
      go_ret
      exact Ret.mk (int_eq (by rw [HM.out, List.drop_eq_nil_of_le (by rw [HL.out]; omega)]; rfl)) hB
end Crc
end Go.Proofs.YtgfldhdmdeeknaaGreatDoor
namespace Go.Proofs.YtgfldhdmdeeknaaGreatDoor
set_option maxRecDepth 100000
open Go.RowKit
namespace Crc

def tail2 (s : Nat) : List Nat := [s / 256, s % 256]
def sealE (l : List Nat) : List Nat × Int := if 4096 < l.length then ([], 2) else (l ++ tail2 (sumB 65535 l), 0)
theorem sealE_no {l : List Nat} (h : 4096 < l.length) : sealE l = ([], 2) := by simp [sealE, h]
theorem sealE_yes {l : List Nat} (h : ¬ 4096 < l.length) : sealE l = (l ++ tail2 (sumB 65535 l), 0) := by simp [sealE, h]
theorem flat_tail2 (l : List Nat) (s : Nat) : (l ++ tail2 s).flatMap bcell = l.flatMap bcell ++ [.int .u8 ((s / 256 : Nat) : Int), .int .u8 ((s % 256 : Nat) : Int)] := by simp [tail2, bcell, List.flatMap_append]

/-- a slice (own or not) that reads as these bytes, and a number -/
def BytesRet (w : World) (p : List Nat × Int) (e : Ending) (w' : World) : Prop :=
  ∃ A c, e = .returned (.tuple #[.slice A p.1.length c, .int .i64 p.2]) ∧ Rd w' w'.heap.size 1 A p.1.length (p.1.flatMap bcell) ∧ Below w.heap.size w w'
/-- .. of the call's own -/
def SealRet (w : World) (p : List Nat × Int) (e : Ending) (w' : World) : Prop :=
  ∃ v, e = .returned (.tuple #[v, .int .i64 p.2]) ∧ w'.ownsRow w.heap.size 5 1 v p.1.length (p.1.flatMap bcell) ∧ Below w.heap.size w w'
theorem SealRet.bytes {w : World} {p : List Nat × Int} {e : Ending} {w' : World} (h : SealRet w p e w') : BytesRet w p e w' := by
  obtain ⟨v, he, ho, hb⟩ := h
  obtain ⟨A, c, rfl⟩ := own_slice ho
  exact ⟨A, c, he, Rd.of_own ho, hb⟩

theorem sum_is (s : Nat) (A : Option Addr) (n c : Nat) (l : List Nat) (w : World) (hs : s < 65536) (hr : Rd w w.heap.size 1 A n (l.flatMap bcell)) (hl : l.length = n) (hn : n ≤ 9223372036854775807) (hb : ∀ x ∈ l, x < 256) :
    Calls Tryz.prog 11 #[.int .u16 (s : Int), .slice A n c] w (Ret w (.int .u16 (sumB s l : Int))) := by
  rw [← sum_eq l s hs hb]
  exact sum_any s A n c l w hs hr hl hn hb

set_option maxHeartbeats 800000 in
theorem seal_any (A : Option Addr) (n c : Nat) (l : List Nat) (w : World) (hr : Rd w w.heap.size 1 A n (l.flatMap bcell)) (hl : l.length = n) (hn : n ≤ 9223372036854775807) (hb : ∀ x ∈ l, x < 256) :
    Calls Tryz.prog 5 #[.slice A n c] w (SealRet w (sealE l)) := by
  obtain ⟨i0, hi, hz0, hz1, hz2⟩ := info_parts byte_info
  by_cases hbig : 4096 < n
  · have HE := Lib.hid (sealE_no (l := l) (by omega))
    clear hr
    go_enter Tryz.func5, Tryz.ntmps5
    go_wp2
    go_ret2
    exact ⟨.slice none 0 0, by rw [HE.out]; rfl, by rw [HE.out]; exact own_none, Below.refl _ _⟩
  · have HE := Lib.hid (sealE_yes (l := l) (by omega))
    have hsl := sumB_lt l 65535 (by omega)
    have cS := fun w' (hb' : Below w.heap.size w w') => sum_is 65535 A n c l w' (by omega) ((hr.below hb').more hb'.size) hl hn hb
    have cC := fun w' (hb' : Below w.heap.size w w') => clone_any A n c l w' ((hr.below hb').more hb'.size) (by omega)
    have HS := Lib.hid cS
    have HC := Lib.hid cC
    have HL := Lib.hid hl
    clear hr cS cC hl hb
    generalize hsg : sumB 65535 l = s at HE hsl HS
    clear hsg
    go_enter Tryz.func5, Tryz.ntmps5
    go_wp2_with fail
    refine (HS.out _ (Below.refl _ _)).mono ?_; rintro e w1 ⟨rfl, hb1⟩
    go_wp2_with fail
    refine (HC.out _ hb1).mono ?_; rintro e w2 ⟨v, rfl, hown, hb2⟩
    have hb12 := hb1.trans (hb2.mono hb1.size)
    have how := own_below (own_mono hown hb1.size) ((Below.refl _ w2).alloc (Nat.le_refl _) (.cells #[.int .u8 ((s : Int) / 256), .int .u8 ((s : Int) % 256)] 5))
    have hnew := Rd.of_own (own_new w2 5 #[.int .u8 ((s : Int) / 256), .int .u8 ((s : Int) % 256)] 1 2 rfl (by simp [maxLen]) (Nat.le_refl _))
    have hz12 := hb12.size
    have ew : IntKind.u8.wrap (s : Int) = (s : Int) % 256 := by rw [IntKind.wrap_u8]
    go_wp2_with (at_builtin; refine wpList_append_rd _ rfl (.tmp 11) (.tmp 17) 22 rfl w.heap.size 5 i0 (.int .u8 0) 1 1 Tryz.underlying22 hi hz0 hz1 hz2 rfl (by omega) v n (l.flatMap bcell) rfl how _ _ 2 2 _ rfl hnew (by simp [Value.oneCell']) (by simp only [maxLen]; omega) (by omega) (by simp; omega) ?_; intro v1 w3 hown1 hg1 hat1)
    go_ret2
    refine ⟨v1, by rw [HE.out]; rfl, ?_, ?_⟩
    · rw [HE.out, flat_tail2]
      have hle : (l ++ tail2 s).length = n + 2 := by rw [List.length_append, HL.out]; rfl
      simp only [hle]
      simpa using hown1
    · exact below_grown (hb12.alloc hb12.size _) how hg1 (by simp; omega)
end Crc
end Go.Proofs.YtgfldhdmdeeknaaGreatDoor
namespace Go.Proofs.YtgfldhdmdeeknaaGreatDoor
set_option maxRecDepth 100000
open Go.RowKit
namespace Crc

theorem Rd_take {w : World} {B k n : Nat} {A : Option Addr} {l : List Nat} (h : Rd w B 1 A n (l.flatMap bcell)) (hl : l.length = n) (hk : k ≤ n) : Rd w B 1 A k ((l.take k).flatMap bcell) := by
  refine ⟨by rw [bcell_flat_len, List.length_take]; omega, fun h0 => ?_⟩
  obtain ⟨b, off, e, hb, hc⟩ := h.2 (by omega)
  refine ⟨b, off, e, hb, fun j u hu => hc j u ?_⟩
  rw [bcell_at] at hu ⊢
  rw [List.getElem?_take] at hu
  split at hu
  · exact hu
  · cases hu

def openE (l : List Nat) : List Nat × Int :=
  if l.length < 2 ∨ 4098 < l.length then ([], 2) else
    if sumB 65535 (l.take (l.length - 2)) = l.getD (l.length - 2) 0 * 256 + l.getD (l.length - 2 + 1) 0 then (l.take (l.length - 2), 0) else ([], 7)

theorem or_eq {a b : Nat} (ha : a < 256) (hb : b < 256) : bits .or .u16 ((a : Int) * 256) (b : Int) = ((a * 256 + b : Nat) : Int) := by
  have h := u16_or_nat (a * 256) b (by omega) (by omega)
  rw [show ((a * 256 : Nat) : Int) = (a : Int) * 256 by omega] at h
  have hb' : b < 2 ^ 8 := hb
  have e := Nat.two_pow_add_eq_or_of_lt hb' a
  rw [h, show a * 256 = 2 ^ 8 * a from Nat.mul_comm a 256, ← e]

set_option maxHeartbeats 800000 in
theorem open_any (A : Option Addr) (n c : Nat) (l : List Nat) (w : World) (hr : Rd w w.heap.size 1 A n (l.flatMap bcell)) (hl : l.length = n) (hn : n ≤ 9223372036854775807) (hc : n ≤ c) (hb : ∀ x ∈ l, x < 256) :
    Calls Tryz.prog 8 #[.slice A n c] w (SealRet w (openE l)) := by
  by_cases hbig : n < 2 ∨ 4098 < n
  · have HE : Hid (openE l = ([], 2)) := Lib.hid (by rw [openE, if_pos (by omega)])
    clear hr
    rcases hbig with h | h
    · go_enter Tryz.func8, Tryz.ntmps8
      go_wp2
      go_ret2
      exact ⟨.slice none 0 0, by rw [HE.out]; rfl, by rw [HE.out]; exact own_none, Below.refl _ _⟩
    · have h' : ¬ n < 2 := by omega
      go_enter Tryz.func8, Tryz.ntmps8
      go_wp2
      go_ret2
      exact ⟨.slice none 0 0, by rw [HE.out]; rfl, by rw [HE.out]; exact own_none, Below.refl _ _⟩
  · have h1 : 2 ≤ n := by omega
    have h2 : n ≤ 4098 := by omega
    obtain ⟨b, off, rfl, hbb, hcell⟩ := hr.at_ bcell_len (show 0 < n by omega)
    obtain ⟨x, hx⟩ : ∃ x, l[n - 2]? = some x := ⟨_, List.getElem?_eq_getElem (by omega)⟩
    obtain ⟨y, hy⟩ : ∃ y, l[n - 2 + 1]? = some y := ⟨_, List.getElem?_eq_getElem (by omega)⟩
    have d0 : ∀ z : LaterOf w, z.w.cell? ⟨b, off + (n - 2), none⟩ = some (.int .u8 (x : Int)) := fun z => z.cell (by have := hcell (n - 2) 0 x _ hx rfl; simpa using this)
    have d1 : ∀ z : LaterOf w, z.w.cell? ⟨b, off + (n - 2 + 1), none⟩ = some (.int .u8 (y : Int)) := fun z => z.cell (by have := hcell (n - 2 + 1) 0 y _ hy rfl; simpa using this)
    have hx8 := hb x (List.mem_of_getElem? hx)
    have hy8 := hb y (List.mem_of_getElem? hy)
    have ht := Rd_take hr hl (show n - 2 ≤ n by omega)
    have htl : (l.take (n - 2)).length = n - 2 := by rw [List.length_take]; omega
    have htb : ∀ x ∈ l.take (n - 2), x < 256 := fun x hx => hb x (List.mem_of_mem_take hx)
    have cS : ∀ z : LaterOf w, Calls Tryz.prog 11 #[.int .u16 65535, .slice (some ⟨b, off, none⟩) (n - 2) c] z.w (Ret z.w (.int .u16 (sumB 65535 (l.take (n - 2)) : Int))) :=
      fun z => sum_is 65535 _ (n - 2) c _ z.w (by omega) ((ht.below z.h).more z.h.size) htl (by omega) htb
    have cC : ∀ z : LaterOf w, Calls Tryz.prog 12 #[.slice (some ⟨b, off, none⟩) (n - 2) c] z.w (OwnRet z.w 5 1 (n - 2) ((l.take (n - 2)).flatMap bcell)) :=
      fun z => clone_any _ (n - 2) c _ z.w ((ht.below z.h).more z.h.size) (by omega)
    have eo := or_eq hx8 hy8
    have hE : openE l = if sumB 65535 (l.take (n - 2)) = x * 256 + y then (l.take (n - 2), 0) else ([], 7) := by
      rw [openE, if_neg (by omega), hl]
      simp only [List.getD_eq_getElem?_getD, hx, hy, Option.getD_some]
    have hsl := sumB_lt (l.take (n - 2)) 65535 (by omega)
    have i1 : (0 : Int) ≤ (n : Int) - 2 := by omega
    have i2 : (n : Int) - 2 ≤ (c : Int) := by omega
    have i3 : (n : Int) - 2 < (n : Int) := by omega
    have i4 : (n : Int) - 2 + 1 < (n : Int) := by omega
    have HS := Lib.hid cS
    have HC := Lib.hid cC
    have HTL := Lib.hid htl
    clear hr cS cC hl hb hcell hx hy ht htl htb
    generalize hsg : sumB 65535 (l.take (n - 2)) = s at HS hE hsl
    generalize hqg : x * 256 + y = q at eo hE
    generalize htg : l.take (n - 2) = tk at hE HC HTL
    clear hsg hqg htg
    by_cases hq : s = q
    · have hq' : ((s : Int) != (q : Int)) = false := by simp [hq]
      rw [if_pos hq] at hE
      have HE := Lib.hid hE
      clear hE hq
      go_enter Tryz.func8, Tryz.ntmps8
      go_upto_region 4 with (fail)
      refine wp_region_later (by kernel_rfl) (by kernel_rfl) ?_
      repeat (go_big_quiet_step ((go_at_call 11; exact Calls.later (HS.out _))))
      refine wpQuiet_nil ?_; intro xw hw'; obtain ⟨xq, hw''⟩ := hw'; obtain ⟨xw0, xh⟩ := xq; change xw = xw0 at hw''; subst hw''
      go_wp2_with fail
      refine (HC.out ⟨xw, xh⟩).mono ?_; rintro e w2 ⟨v, rfl, hown, hb2⟩
      go_wp2
      go_ret2
      refine ⟨v, by rw [HE.out]; rfl, ?_, xh.trans (hb2.mono xh.size)⟩
      rw [HE.out]
      simp only [HTL.out]
      exact own_mono hown xh.size
    · have hq' : ((s : Int) != (q : Int)) = true := by simp; omega
      rw [if_neg hq] at hE
      have HE := Lib.hid hE
      clear hE hq
      go_enter Tryz.func8, Tryz.ntmps8
      go_upto_region 4 with (fail)
      refine wp_region_later (by kernel_rfl) (by kernel_rfl) ?_
      repeat (go_big_quiet_step ((go_at_call 11; exact Calls.later (HS.out _))))
      refine wpQuiet_nil ?_; intro xw hw'; obtain ⟨xq, hw''⟩ := hw'; obtain ⟨xw0, xh⟩ := xq; change xw = xw0 at hw''; subst hw''
      go_wp2
      go_ret2
      exact ⟨.slice none 0 0, by rw [HE.out]; rfl, by rw [HE.out]; exact own_none, xh⟩

theorem openE_seal {l : List Nat} {n : Nat} (hl : l.length = n) (h1 : 2 ≤ n) (h2 : n ≤ 4098) (hb : ∀ x ∈ l, x < 256) :
    openE l = if l.take (n - 2) ++ tail2 (sumB 65535 (l.take (n - 2))) = l then (l.take (n - 2), 0) else ([], 7) := by
  rw [openE, if_neg (by omega), hl]
  have hsl := sumB_lt (l.take (n - 2)) 65535 (by omega)
  generalize sumB 65535 (l.take (n - 2)) = s at hsl
  have e0 : l.take (n - 2) ++ [l.getD (n - 2) 0, l.getD (n - 2 + 1) 0] = l := by
    conv => rhs; rw [← List.take_append_drop (n - 2) l]
    rw [List.drop_eq_getElem_cons (by omega), List.drop_eq_getElem_cons (by omega), List.drop_eq_nil_of_le (by omega)]
    simp [List.getD_eq_getElem?_getD, List.getElem?_eq_getElem (show n - 2 < l.length by omega), List.getElem?_eq_getElem (show n - 2 + 1 < l.length by omega)]
  have x8 : l.getD (n - 2) 0 < 256 := by
    rw [List.getD_eq_getElem?_getD, List.getElem?_eq_getElem (show n - 2 < l.length by omega)]
    exact hb _ (List.getElem_mem _)
  have y8 : l.getD (n - 2 + 1) 0 < 256 := by
    rw [List.getD_eq_getElem?_getD, List.getElem?_eq_getElem (show n - 2 + 1 < l.length by omega)]
    exact hb _ (List.getElem_mem _)
  generalize l.getD (n - 2) 0 = x at e0 x8
  generalize l.getD (n - 2 + 1) 0 = y at e0 y8
  congr 1
  apply propext
  constructor
  · intro h
    conv => rhs; rw [← e0]
    congr 1
    unfold tail2
    rw [show s / 256 = x by omega, show s % 256 = y by omega]
  · intro h
    have := List.append_cancel_left (e0.trans h.symm)
    simp [tail2] at this
    omega
end Crc
end Go.Proofs.YtgfldhdmdeeknaaGreatDoor
