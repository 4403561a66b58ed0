/-
  Walks of journal.Write, journal.Fold and of the reference's JWrite.
-/
import Derived.Test.YtljdfkejhgaciabCrcW3
namespace Go.Proofs.Ytljdfkejhgaciab
open Go.RowKit
namespace Jrn
open Crc

def writeE (l : List Nat) : List Nat × Int := if 255 < l.length then ([], 2) else ((l.length :: l) ++ tail2 (sumB 65535 (l.length :: l)), 0)
theorem writeE_no {l : List Nat} (h : 255 < l.length) : writeE l = ([], 2) := by simp [writeE, h]
theorem writeE_yes {l : List Nat} (h : ¬ 255 < l.length) : writeE l = ((l.length :: l) ++ tail2 (sumB 65535 (l.length :: l)), 0) := by simp [writeE, h]
theorem writeE_seal {l : List Nat} (h : ¬ 255 < l.length) : writeE l = sealE (l.length :: l) := by rw [writeE_yes h, sealE_yes (by simp; omega)]

set_option maxHeartbeats 800000 in
theorem write_any (A : Option Addr) (n c : Nat) (l : List Nat) (w : World) (hr : Rd w w.heap.size 1 A n (l.flatMap bcell)) (hl : l.length = n) (hn : n ≤ 9223372036854775807) (hb : ∀ x ∈ l, x < 256) :
    Calls Try.prog 27 #[.slice A n c] w (SealRet w (writeE l)) := by
  obtain ⟨i0, hi, hz0, hz1, hz2⟩ := info_parts byte_info
  by_cases hbig : 255 < n
  · have HE := Lib.hid (writeE_no (l := l) (by omega))
    clear hr
    go_enter Try.func27, Try.ntmps27
    go_wp2
    go_ret2
    exact ⟨.slice none 0 0, by rw [HE.out]; rfl, by rw [HE.out]; exact own_none, Below.refl _ _⟩
  · have HE := Lib.hid (writeE_seal (l := l) (by omega))
    have cS := Lib.hid (fun (A' : Option Addr) (c' : Nat) (w' : World) (hr' : Rd w' w'.heap.size 1 A' (1 + n) ((l.length :: l).flatMap bcell)) => seal_any A' (1 + n) c' (l.length :: l) w' hr' (by simp [hl]; omega) (by omega)
      (by intro x hx; rcases List.mem_cons.1 hx with h | h; · omega
          · exact hb x h))
    have hwl : IntKind.u8.wrap (n : Int) = (n : Int) := by rw [IntKind.wrap_u8]; omega
    have how := own_new w 5 #[.int .u8 (n : Int)] 1 1 rfl (by simp [maxLen]) (Nat.le_refl _)
    have HR := Lib.hid ((hr.below' ((Below.refl _ _).alloc (Nat.le_refl _) (.cells #[.int .u8 (n : Int)] 5)) (Nat.le_refl _)))
    have HL := Lib.hid hl
    clear hr hl hb
    go_enter Try.func27, Try.ntmps27
    go_wp2_with (at_builtin; refine wpList_append_rd _ rfl (.tmp 10) (.tmp 11) 23 rfl w.heap.size 5 i0 (.int .u8 0) 1 1 Try.underlying23 hi hz0 hz1 hz2 rfl (by omega) _ 1 _ rfl how w.heap.size A n c (l.flatMap bcell) rfl HR.out (bcell_one l) (by simp only [maxLen]; omega) (by omega) (by simp) ?_; intro v w2 hown hg1 hat1)
    have hB2 := below_grown ((Below.refl _ _).alloc (Nat.le_refl _) _) how hg1 (by simp)
    obtain ⟨A', c', hv⟩ := own_slice hown
    rw [hv] at hown ⊢
    refine (cS.out A' c' _ (by
      have := Rd.of_own hown
      simpa [bcell, HL.out] using this)).mono ?_; rintro e w3 ⟨v3, rfl, ho3, hb3⟩
    go_wp2
    go_ret2
    exact ⟨v3, by rw [HE.out]; rfl, by rw [HE.out]; exact own_mono ho3 hB2.size, hB2.trans (hb3.mono hB2.size)⟩

set_option maxHeartbeats 800000 in
theorem jwrite_any (A : Option Addr) (n c : Nat) (l : List Nat) (w : World) (hr : Rd w w.heap.size 1 A n (l.flatMap bcell)) (hl : l.length = n) (hn : n ≤ 9223372036854775807) (hb : ∀ x ∈ l, x < 256) :
    Calls Try.prog 26 #[.slice A n c] w (SealRet w (writeE l)) := by
  obtain ⟨i0, hi, hz0, hz1, hz2⟩ := info_parts byte_info
  by_cases hbig : 255 < n
  · have HE := Lib.hid (writeE_no (l := l) (by omega))
    clear hr
    go_enter Try.func26, Try.ntmps26
    go_wp2
    go_ret2
    exact ⟨.slice none 0 0, by rw [HE.out]; rfl, by rw [HE.out]; exact own_none, Below.refl _ _⟩
  · have HE := Lib.hid (writeE_yes (l := l) (by omega))
    have hbb : ∀ x ∈ l.length :: l, x < 256 := by
      intro x hx
      rcases List.mem_cons.1 hx with h | h
      · omega
      · exact hb x h
    have cS := Lib.hid (fun (A' : Option Addr) (c' : Nat) (w' : World) (hr' : Rd w' w'.heap.size 1 A' (1 + n) ((l.length :: l).flatMap bcell)) => bsum_any 65535 A' (1 + n) c' (l.length :: l) w' (by omega) hr' (by simp [hl]; omega) (by omega) hbb)
    have hsl := sumB_lt (l.length :: l) 65535 (by omega)
    have hwl : IntKind.u8.wrap (n : Int) = (n : Int) := by rw [IntKind.wrap_u8]; omega
    have how := own_new w 5 #[.int .u8 (n : Int)] 1 1 rfl (by simp [maxLen]) (Nat.le_refl _)
    have HR := Lib.hid ((hr.below' ((Below.refl _ _).alloc (Nat.le_refl _) (.cells #[.int .u8 (n : Int)] 5)) (Nat.le_refl _)))
    have HL := Lib.hid hl
    clear hr hl hb hbb
    generalize sumB 65535 (l.length :: l) = s at HE cS hsl
    go_enter Try.func26, Try.ntmps26
    go_upto_region 5 with (at_builtin; refine wpList_append_rd _ rfl (.tmp 13) (.tmp 14) 23 rfl w.heap.size 5 i0 (.int .u8 0) 1 1 Try.underlying23 hi hz0 hz1 hz2 rfl (by omega) _ 1 _ rfl how w.heap.size A n c (l.flatMap bcell) rfl HR.out (bcell_one l) (by simp only [maxLen]; omega) (by omega) (by simp) ?_; intro v w2 hown hg1 hat1)
    have hB2 := below_grown ((Below.refl _ _).alloc (Nat.le_refl _) _) how hg1 (by simp)
    obtain ⟨A', c', hv⟩ := own_slice hown
    rw [hv] at hown ⊢
    have hRd : Rd w2 w2.heap.size 1 A' (1 + n) ((l.length :: l).flatMap bcell) := by
      have := Rd.of_own hown
      simpa [bcell, HL.out] using this
    have hown' : w2.ownsRow w.heap.size 5 1 (.slice A' (1 + n) c') (1 + n) ((l.length :: l).flatMap bcell) := by simpa [bcell, HL.out] using hown
    have HOW := Lib.hid hown'
    clear hown hown' hg1 hat1 how hv
    go_wp2_with fail
    refine (cS.out A' c' _ hRd).mono ?_; rintro e w3 ⟨rfl, hb3⟩
    have hB3 := hB2.trans (hb3.mono hB2.size)
    have hz3 := hB3.size
    have how3 := own_below (own_below HOW.out hb3) ((Below.refl _ w3).alloc (Nat.le_refl _) (.cells #[.int .u8 ((s : Int) / 256), .int .u8 ((s : Int) % 256)] 5))
    have hnew := Rd.of_own (own_new w3 5 #[.int .u8 ((s : Int) / 256), .int .u8 ((s : Int) % 256)] 1 2 rfl (by simp [maxLen]) (Nat.le_refl _))
    have ew : IntKind.u8.wrap ((s : Int) / 256) = (s : Int) / 256 := by rw [IntKind.wrap_u8]; omega
    go_wp2_with (at_builtin; refine wpList_append_rd _ rfl (.tmp 18) (.tmp 25) 23 rfl w.heap.size 5 i0 (.int .u8 0) 1 1 Try.underlying23 hi hz0 hz1 hz2 rfl (by omega) _ (1 + n) _ rfl how3 _ _ 2 2 _ rfl hnew (by simp [Value.oneCell']) (by simp only [maxLen]; omega) (by omega) (by simp; omega) ?_; intro v1 w4 hown1 hg1 hat1)
    go_ret2
    refine ⟨v1, by rw [HE.out]; rfl, ?_, ?_⟩
    · rw [HE.out, flat_tail2]
      have hle : ((l.length :: l) ++ tail2 s).length = 1 + n + 2 := by rw [List.length_append, List.length_cons, HL.out]; simp [tail2]; omega
      simp only [hle]
      simpa using hown1
    · exact below_grown (hB3.alloc hB3.size _) how3 hg1 (by simp; omega)

/-- a record that came in: where its bytes lie, and they -/
structure Rec where
  (A : Option Addr) (n c : Nat) (bs : List Nat)
def Rec.cells (r : Rec) : List Value := [.slice r.A r.n r.c]
theorem Rec.len : ∀ r : Rec, r.cells.length = 1 := fun _ => rfl
def Rec.ok (w : World) (r : Rec) : Prop := Rd w w.heap.size 1 r.A r.n (r.bs.flatMap bcell) ∧ r.bs.length = r.n ∧ r.n ≤ 9223372036854775807 ∧ ∀ x ∈ r.bs, x < 256

def foldR : List Rec → List Nat → List Nat × Int
  | [], acc => (acc, 0)
  | r :: t, acc => if 255 < r.bs.length then ([], 2) else foldR t (acc ++ (writeE r.bs).1)
def FoldTo (l : List Rec) (k : Nat) (acc : List Nat) : Prop := foldR l [] = foldR (l.drop k) acc
theorem write_len {l : List Nat} (h : ¬ 255 < l.length) : (writeE l).1.length ≤ 258 ∧ (writeE l).2 = 0 := by rw [writeE_yes h]; simp [tail2]; omega
theorem write_small {l : List Nat} (hb : ∀ x ∈ l, x < 256) : ∀ x ∈ (writeE l).1, x < 256 := by
  by_cases h : 255 < l.length
  · rw [writeE_no h]; simp
  · rw [writeE_yes h]
    intro x hx
    have := sumB_lt (l.length :: l) 65535 (by omega)
    generalize sumB 65535 (l.length :: l) = s at this hx
    rcases List.mem_append.1 hx with h' | h'
    · rcases List.mem_cons.1 h' with h' | h'
      · omega
      · exact hb x h'
    · simp [tail2] at h'
      omega

set_option maxHeartbeats 1600000 in
theorem fold_any (A : Option Addr) (n c : Nat) (l : List Rec) (w : World) (hr : Rd w w.heap.size 1 A n (l.flatMap Rec.cells)) (hl : l.length = n) (hn : n ≤ 1048576) (hq : ∀ r ∈ l, r.ok w) :
    Calls Try.prog 25 #[.slice A n c] w (SealRet w (foldR l [])) := by
  obtain ⟨i0, hi, hz0, hz1, hz2⟩ := info_parts byte_info
  have HR := Lib.hid hr
  have HL := Lib.hid hl
  have HQ := Lib.hid hq
  clear hr hl hq
  go_enter Try.func25, Try.ntmps25
  go_wp2
  go_loopg [4, 11] n (fun g v i wr => ∃ (k m : Nat) (acc : List Nat), k ≤ n ∧ g = n - k ∧ i = .int .i64 k ∧ m ≤ 258 * k ∧ Hid (acc.length = m) ∧ wr.ownsRow w.heap.size 5 1 v m (acc.flatMap bcell) ∧ Hid (FoldTo l k acc) ∧ Below w.heap.size w wr)
  case atStart => exact ⟨0, 0, [], Nat.zero_le _, rfl, rfl, by omega, Lib.hid rfl, own_none, Lib.hid rfl, Below.refl _ _⟩
  case round =>
    obtain ⟨k, m, acc, hk, rfl, rfl, hm, HM, hown, HF, hB⟩ := hrel
    have HO := Lib.hid hown
    clear hown
    by_cases hlt : k < n
    · have hn0 : 0 < n := by omega
      obtain ⟨b, off, rfl, hb, hc⟩ := HR.out.at_ Rec.len hn0
      obtain ⟨r, hx⟩ : ∃ r, l[k]? = some r := ⟨_, List.getElem?_eq_getElem (by rw [HL.out]; exact hlt)⟩
      have c0 : wr.cell? ⟨b, off + k, none⟩ = some (.slice r.A r.n r.c) := (hB.cell hb).trans (by have := hc k 0 r _ hx rfl; simpa using this)
      obtain ⟨q1, q2, q3, q4⟩ := HQ.out r (List.mem_of_getElem? hx)
      have HX := Lib.hid (drop_at hx)
      have cW := write_any r.A r.n r.c r.bs wr ((q1.below hB).more hB.size) q2 q3 q4
      clear hc hx q1 q3
      by_cases hbig : 255 < r.n
      · rw [writeE_no (by omega)] at cW
        have HE : Hid (foldR l [] = ([], 2)) := Lib.hid (by have := HF.out; unfold FoldTo at this; rw [this, HX.out, foldR, if_pos (by omega)])
        have HW := Lib.hid cW
        clear cW q2 q4
        go_wp2_with fail
        refine HW.out.mono ?_; rintro e w1 ⟨v1, rfl, hown1, hb1⟩
        go_wp2
        go_ret2
        exact ⟨.slice none 0 0, by rw [HE.out]; rfl, by rw [HE.out]; exact own_none, hB.trans (hb1.mono hB.size)⟩
      · have hwl := write_len (l := r.bs) (by omega)
        have HE : Hid (FoldTo l (k + 1) (acc ++ (writeE r.bs).1)) := Lib.hid (by have := HF.out; unfold FoldTo at this ⊢; rw [this, HX.out, foldR, if_neg (by omega)])
        generalize writeE r.bs = we at cW hwl HE
        obtain ⟨wl, we⟩ := we
        simp only at hwl
        obtain ⟨hwl1, rfl⟩ := hwl
        have HW := Lib.hid cW
        clear cW q2 q4
        generalize hml : wl.length = ml at hwl1
        have HML := Lib.hid hml
        clear hml
        go_wp2_with fail
        refine HW.out.mono ?_; rintro e w1 ⟨v1, rfl, hown1, hb1⟩
        obtain ⟨A1, c1, hv1⟩ := own_slice hown1
        simp only [HML.out] at hown1 hv1
        rw [hv1] at hown1 ⊢
        have hRd := Rd.of_own hown1
        have how := own_below HO.out hb1
        have hB1 := hB.trans (hb1.mono hB.size)
        clear hown1 hv1 HW
        go_wp2_with (at_builtin; refine wpList_append_rd _ rfl (.tmp 23) (.tmp 24) 23 rfl w.heap.size 5 i0 (.int .u8 0) 1 1 Try.underlying23 hi hz0 hz1 hz2 rfl (by omega) _ m _ rfl how w1.heap.size A1 ml c1 (wl.flatMap bcell) rfl hRd (bcell_one wl) (by simp only [maxLen]; omega) (by omega) hB1.size ?_; intro v2 w2 hown2 hg2 hat2)
        have hB2 := below_grown hB1 how hg2 hB1.size
        go_roundg (n - (k + 1))
        case measure => omega
        case rel => exact ⟨k + 1, m + ml, acc ++ wl, by omega, rfl, by go_num, by omega, Lib.hid (by rw [List.length_append, HM.out, HML.out]), by rw [List.flatMap_append]; exact hown2, HE, hB2⟩
    · have HE : Hid (foldR l [] = (acc, 0)) := Lib.hid (by have := HF.out; unfold FoldTo at this; rw [this, List.drop_eq_nil_of_le (by rw [HL.out]; omega), foldR])
      go_wp2
      go_ret2
      refine ⟨_, by rw [HE.out]; rfl, ?_, hB⟩
      rw [HE.out]
      simp only [HM.out]
      exact HO.out
end Jrn
end Go.Proofs.Ytljdfkejhgaciab
