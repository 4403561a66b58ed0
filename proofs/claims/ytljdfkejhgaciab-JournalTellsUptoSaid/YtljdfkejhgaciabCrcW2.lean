/-
  Walks of crc.Seal, crc.Open and of the reference's BSeal, BOpen.
-/
import Derived.Test.YtljdfkejhgaciabCrcW
namespace Go.Proofs.Ytljdfkejhgaciab
open Go.RowKit
namespace Crc

def tail2 (s : Nat) : List Nat := [s / 256, s % 256]
def sealE (l : List Nat) : List Nat × Int := if 4096 < l.length then ([], 2) else (l ++ tail2 (sumB 65535 l), 0)
theorem sealE_no {l : List Nat} (h : 4096 < l.length) : sealE l = ([], 2) := by simp [sealE, h]
theorem sealE_yes {l : List Nat} (h : ¬ 4096 < l.length) : sealE l = (l ++ tail2 (sumB 65535 l), 0) := by simp [sealE, h]
theorem flat_tail2 (l : List Nat) (s : Nat) : (l ++ tail2 s).flatMap bcell = l.flatMap bcell ++ [.int .u8 ((s / 256 : Nat) : Int), .int .u8 ((s % 256 : Nat) : Int)] := by simp [tail2, bcell, List.flatMap_append]

/-- a slice (own or not) that reads as these bytes, and a number -/
def BytesRet (w : World) (p : List Nat × Int) (e : Ending) (w' : World) : Prop :=
  ∃ A c, e = .returned (.tuple #[.slice A p.1.length c, .int .i64 p.2]) ∧ Rd w' w'.heap.size 1 A p.1.length (p.1.flatMap bcell) ∧ Below w.heap.size w w'
/-- .. of the call's own -/
def SealRet (w : World) (p : List Nat × Int) (e : Ending) (w' : World) : Prop :=
  ∃ v, e = .returned (.tuple #[v, .int .i64 p.2]) ∧ w'.ownsRow w.heap.size 5 1 v p.1.length (p.1.flatMap bcell) ∧ Below w.heap.size w w'
theorem SealRet.bytes {w : World} {p : List Nat × Int} {e : Ending} {w' : World} (h : SealRet w p e w') : BytesRet w p e w' := by
  obtain ⟨v, he, ho, hb⟩ := h
  obtain ⟨A, c, rfl⟩ := own_slice ho
  exact ⟨A, c, he, Rd.of_own ho, hb⟩

theorem sum_is (s : Nat) (A : Option Addr) (n c : Nat) (l : List Nat) (w : World) (hs : s < 65536) (hr : Rd w w.heap.size 1 A n (l.flatMap bcell)) (hl : l.length = n) (hn : n ≤ 9223372036854775807) (hb : ∀ x ∈ l, x < 256) :
    Calls Try.prog 13 #[.int .u16 (s : Int), .slice A n c] w (Ret w (.int .u16 (sumB s l : Int))) := by
  rw [← sum_eq l s hs hb]
  exact sum_any s A n c l w hs hr hl hn hb

set_option maxHeartbeats 800000 in
theorem seal_any (A : Option Addr) (n c : Nat) (l : List Nat) (w : World) (hr : Rd w w.heap.size 1 A n (l.flatMap bcell)) (hl : l.length = n) (hn : n ≤ 9223372036854775807) (hb : ∀ x ∈ l, x < 256) :
    Calls Try.prog 9 #[.slice A n c] w (SealRet w (sealE l)) := by
  obtain ⟨i0, hi, hz0, hz1, hz2⟩ := info_parts byte_info
  by_cases hbig : 4096 < n
  · have HE := Lib.hid (sealE_no (l := l) (by omega))
    clear hr
    go_enter Try.func9, Try.ntmps9
    go_wp2
    go_ret2
    exact ⟨.slice none 0 0, by rw [HE.out]; rfl, by rw [HE.out]; exact own_none, Below.refl _ _⟩
  · have HE := Lib.hid (sealE_yes (l := l) (by omega))
    have hsl := sumB_lt l 65535 (by omega)
    have cS := fun w' (hb' : Below w.heap.size w w') => sum_is 65535 A n c l w' (by omega) ((hr.below hb').more hb'.size) hl hn hb
    have cC := fun w' (hb' : Below w.heap.size w w') => clone_any A n c l w' ((hr.below hb').more hb'.size) (by omega)
    have HS := Lib.hid cS
    have HC := Lib.hid cC
    have HL := Lib.hid hl
    clear hr cS cC hl hb
    generalize hsg : sumB 65535 l = s at HE hsl HS
    clear hsg
    go_enter Try.func9, Try.ntmps9
    go_wp2_with fail
    refine (HS.out _ (Below.refl _ _)).mono ?_; rintro e w1 ⟨rfl, hb1⟩
    go_wp2_with fail
    refine (HC.out _ hb1).mono ?_; rintro e w2 ⟨v, rfl, hown, hb2⟩
    have hb12 := hb1.trans (hb2.mono hb1.size)
    have how := own_below (own_mono hown hb1.size) ((Below.refl _ w2).alloc (Nat.le_refl _) (.cells #[.int .u8 ((s : Int) / 256), .int .u8 ((s : Int) % 256)] 5))
    have hnew := Rd.of_own (own_new w2 5 #[.int .u8 ((s : Int) / 256), .int .u8 ((s : Int) % 256)] 1 2 rfl (by simp [maxLen]) (Nat.le_refl _))
    have hz12 := hb12.size
    have ew : IntKind.u8.wrap (s : Int) = (s : Int) % 256 := by rw [IntKind.wrap_u8]
    go_wp2_with (at_builtin; refine wpList_append_rd _ rfl (.tmp 11) (.tmp 17) 23 rfl w.heap.size 5 i0 (.int .u8 0) 1 1 Try.underlying23 hi hz0 hz1 hz2 rfl (by omega) v n (l.flatMap bcell) rfl how _ _ 2 2 _ rfl hnew (by simp [Value.oneCell']) (by simp only [maxLen]; omega) (by omega) (by simp; omega) ?_; intro v1 w3 hown1 hg1 hat1)
    go_ret2
    refine ⟨v1, by rw [HE.out]; rfl, ?_, ?_⟩
    · rw [HE.out, flat_tail2]
      have hle : (l ++ tail2 s).length = n + 2 := by rw [List.length_append, HL.out]; rfl
      simp only [hle]
      simpa using hown1
    · exact below_grown (hb12.alloc hb12.size _) how hg1 (by simp; omega)

set_option maxHeartbeats 800000 in
theorem bseal_any (A : Option Addr) (n c : Nat) (l : List Nat) (w : World) (hr : Rd w w.heap.size 1 A n (l.flatMap bcell)) (hl : l.length = n) (hn : n ≤ 9223372036854775807) (hb : ∀ x ∈ l, x < 256) :
    Calls Try.prog 10 #[.slice A n c] w (SealRet w (sealE l)) := by
  obtain ⟨i0, hi, hz0, hz1, hz2⟩ := info_parts byte_info
  by_cases hbig : 4096 < n
  · have HE := Lib.hid (sealE_no (l := l) (by omega))
    clear hr
    go_enter Try.func10, Try.ntmps10
    go_wp2
    go_ret2
    exact ⟨.slice none 0 0, by rw [HE.out]; rfl, by rw [HE.out]; exact own_none, Below.refl _ _⟩
  · have HE := Lib.hid (sealE_yes (l := l) (by omega))
    have hsl := sumB_lt l 65535 (by omega)
    have cS := bsum_any 65535 A n c l w (by omega) hr hl hn hb
    have HR := Lib.hid hr
    have HS := Lib.hid cS
    have HL := Lib.hid hl
    clear hr cS hl hb
    generalize hsg : sumB 65535 l = s at HE hsl HS
    clear hsg
    go_enter Try.func10, Try.ntmps10
    go_wp2_with fail
    refine HS.out.mono ?_; rintro e w1 ⟨rfl, hb1⟩
    have hz1' := hb1.size
    go_upto_region 6 with (at_builtin; refine wpList_append_rd _ rfl (.tmp 11) (.tmp 12) 23 rfl w.heap.size 5 i0 (.int .u8 0) 1 1 Try.underlying23 hi hz0 hz1 hz2 rfl (by omega) (.slice none 0 0) 0 [] rfl own_none w.heap.size A n c (l.flatMap bcell) rfl (HR.out.below hb1) (bcell_one l) (by simp only [maxLen]; omega) (by omega) hb1.size ?_; intro v w2 hown hg1 hat1)
    have hb12 := below_grown hb1 (own_none (E := 0) (size := 1)) hg1 hb1.size
    have hz12 := hb12.size
    rw [Nat.zero_add, List.nil_append] at hown
    have how := own_below hown ((Below.refl _ w2).alloc (Nat.le_refl _) (.cells #[.int .u8 ((s : Int) / 256), .int .u8 ((s : Int) % 256)] 5))
    have hnew := Rd.of_own (own_new w2 5 #[.int .u8 ((s : Int) / 256), .int .u8 ((s : Int) % 256)] 1 2 rfl (by simp [maxLen]) (Nat.le_refl _))
    clear hown hg1 hat1 hb1
    have ew : IntKind.u8.wrap ((s : Int) / 256) = (s : Int) / 256 := by rw [IntKind.wrap_u8]; omega
    go_wp2_with (at_builtin; refine wpList_append_rd _ rfl (.tmp 14) (.tmp 21) 23 rfl w.heap.size 5 i0 (.int .u8 0) 1 1 Try.underlying23 hi hz0 hz1 hz2 rfl (by omega) v n (l.flatMap bcell) rfl how _ _ 2 2 _ rfl hnew (by simp [Value.oneCell']) (by simp only [maxLen]; omega) (by omega) (by simp; omega) ?_; intro v1 w3 hown1 hg1 hat1)
    go_ret2
    refine ⟨v1, by rw [HE.out]; rfl, ?_, ?_⟩
    · rw [HE.out, flat_tail2]
      have hle : (l ++ tail2 s).length = n + 2 := by rw [List.length_append, HL.out]; rfl
      simp only [hle]
      simpa using hown1
    · exact below_grown (hb12.alloc hb12.size _) how hg1 (by simp; omega)
end Crc
end Go.Proofs.Ytljdfkejhgaciab
