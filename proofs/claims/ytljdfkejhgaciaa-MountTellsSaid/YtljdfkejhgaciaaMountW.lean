/-
  Walks of package mount and of its reference.
-/
import Derived.Test.YtljdfkejhgaciaaArr
namespace Go.Proofs.Ytljdfkejhgaciaa
open Go.RowKit
namespace Mount

structure Pg where
  (seq num data : Int) (whole : Bool)
def Pg.cells (p : Pg) : List Value := [.int .i64 p.seq, .int .i64 p.num, .int .i64 p.data, .bool p.whole]
theorem Pg.len : ∀ p : Pg, p.cells.length = 4 := fun _ => rfl
def Pg.val (p : Pg) : Value := .agg #[.int .i64 p.seq, .int .i64 p.num, .int .i64 p.data, .bool p.whole]
def Pg.bad (p : Pg) : Bool := decide (p.num < 0) || decide (16 ≤ p.num)

def StoreRet (w : World) (g : Nat) (p : Pg) (e : Ending) (w' : World) : Prop :=
  ∃ w1, Below w.heap.size w w1 ∧ ((p.bad = true ∧ e = .returned (.int .i64 2) ∧ w' = w1) ∨ (p.bad = false ∧ e = .returned (.int .i64 0) ∧ w' = w1.setCell ⟨g, p.num.toNat, none⟩ (.int .i64 p.data)))

set_option maxHeartbeats 800000 in
theorem store_any (g t : Nat) (l : List Int) (p : Pg) (w : World) (hg : Ints w g t l) (hl : l.length = 16) :
    Calls Try.prog 33 #[.pointer (some ⟨g, 0, none⟩), p.val] w (StoreRet w g p) := by
  obtain ⟨s, n, d, wh⟩ := p
  unfold Pg.val
  simp only
  have HG := Lib.hid hg
  have hlt := hg.lt
  clear hg
  by_cases h0 : n < 0
  · have HB : Hid ((⟨s, n, d, wh⟩ : Pg).bad = true) := Lib.hid (by simp [Pg.bad, h0])
    go_enter Try.func33, Try.ntmps33
    go_wp2
    go_ret
    exact ⟨_, (by repeat (first | with_reducible refine Below.setCell ?_ (by first | (simp; done) | (simp; omega)) _ | with_reducible assumption | with_reducible exact Below.refl _ _ | with_reducible refine Below.alloc ?_ (by first | omega | (simp; done) | (simp; omega)) _ | with_reducible refine Below.drew ?_)), .inl ⟨HB.out, rfl, rfl⟩⟩
  · by_cases h1 : 16 ≤ n
    · have HB : Hid ((⟨s, n, d, wh⟩ : Pg).bad = true) := Lib.hid (by simp [Pg.bad, h1])
      go_enter Try.func33, Try.ntmps33
      go_wp2
      go_ret
      exact ⟨_, (by repeat (first | with_reducible refine Below.setCell ?_ (by first | (simp; done) | (simp; omega)) _ | with_reducible assumption | with_reducible exact Below.refl _ _ | with_reducible refine Below.alloc ?_ (by first | omega | (simp; done) | (simp; omega)) _ | with_reducible refine Below.drew ?_)), .inl ⟨HB.out, rfl, rfl⟩⟩
    · have HB : Hid ((⟨s, n, d, wh⟩ : Pg).bad = false) := Lib.hid (by simp [Pg.bad, h0, h1])
      obtain ⟨k, rfl⟩ := Int.eq_ofNat_of_zero_le (show 0 ≤ n by omega)
      have hk : k < 16 := by omega
      obtain ⟨x, hx⟩ : ∃ x, l[k]? = some x := ⟨_, List.getElem?_eq_getElem (by omega)⟩
      have i0 : (0 : Int) ≤ (k : Int) := by omega
      have i1 : (k : Int) < 16 := by omega
      go_enter Try.func33, Try.ntmps33
      have d1 : ∀ z : LaterOf (w.alloc (.cells #[.int .i64 s, .int .i64 (k : Int), .int .i64 d, .bool wh] 69)), z.w.cell? ⟨w.heap.size, 1, none⟩ = some (.int .i64 (k : Int)) := fun z => z.new_ 1 rfl
      have d2 : ∀ z : LaterOf (w.alloc (.cells #[.int .i64 s, .int .i64 (k : Int), .int .i64 d, .bool wh] 69)), z.w.cell? ⟨w.heap.size, 2, none⟩ = some (.int .i64 d) := fun z => z.new_ 2 rfl
      go_upto_region 3 with (fail)
      refine wp_region_tail 7 (by kernel_rfl) (by kernel_rfl) ?_
      simp only [List.take_succ_cons, List.take_zero, List.drop_succ_cons, List.drop_zero]
      repeat (go_big_quiet_step (fail))
      refine wpQuiet_nil ?_; intro xw hw'; obtain ⟨xq, hw''⟩ := hw'; obtain ⟨xw0, xh⟩ := xq; change xw = xw0 at hw''; subst hw''
      have hI := (HG.out.alloc (.cells #[.int .i64 s, .int .i64 (k : Int), .int .i64 d, .bool wh] 69)).later xh
      have u0 := hI.froz (k := k)
      have u1 := hI.cell hx
      go_wp2
      go_ret
      exact ⟨_, (((by repeat (first | with_reducible refine Below.setCell ?_ (by first | (simp; done) | (simp; omega)) _ | with_reducible assumption | with_reducible exact Below.refl _ _ | with_reducible refine Below.alloc ?_ (by first | omega | (simp; done) | (simp; omega)) _ | with_reducible refine Below.drew ?_)) : Below w.heap.size w (w.alloc (.cells #[.int .i64 s, .int .i64 (k : Int), .int .i64 d, .bool wh] 69)))).trans (xh.mono (by simp)), .inr ⟨HB.out, rfl, rfl⟩⟩

def zero16 : List Int := [0, 0, 0, 0, 0, 0, 0, 0, 0, 0, 0, 0, 0, 0, 0, 0]
def setP (l : List Int) (p : Pg) : List Int := l.set p.num.toNat p.data
theorem setP_len (l : List Int) (p : Pg) : (setP l p).length = l.length := by simp [setP]
def foldL (l : List Int) : List Pg → List Int × Int
  | [] => (l, 0)
  | p :: ps => if p.bad then (zero16, 2) else foldL (setP l p) ps
theorem foldL_len : ∀ (ps : List Pg) (l : List Int), l.length = 16 → (foldL l ps).1.length = 16
  | [], l, h => h
  | p :: ps, l, h => by
    rw [foldL]
    split
    · rfl
    · exact foldL_len ps _ (by rw [setP_len]; exact h)
theorem drop_at {α : Type} {l : List α} {k : Nat} {x : α} (h : l[k]? = some x) : l.drop k = x :: l.drop (k + 1) := by
  obtain ⟨hk, rfl⟩ := List.getElem?_eq_some_iff.1 h
  exact List.drop_eq_getElem_cons hk
theorem Pg.facts {w wr : World} {b off B k : Nat} {l : List Pg} {x : Pg} (hb : b < B) (hB : Below B w wr) (hc : ∀ (i j : Nat) (x : Pg) (u : Value), l[i]? = some x → x.cells[j]? = some u → w.cell? ⟨b, off + (i * 4 + j), none⟩ = some u)
    (hx : l[k]? = some x) : wr.cell? ⟨b, off + k * 4, none⟩ = some (.int .i64 x.seq) ∧ wr.cell? ⟨b, off + k * 4 + 1, none⟩ = some (.int .i64 x.num) ∧ wr.cell? ⟨b, off + k * 4 + 2, none⟩ = some (.int .i64 x.data) ∧ wr.cell? ⟨b, off + k * 4 + 3, none⟩ = some (.bool x.whole) :=
  ⟨(hB.cell hb).trans (hc k 0 x _ hx rfl), (hB.cell hb).trans (hc k 1 x _ hx rfl), (hB.cell hb).trans (hc k 2 x _ hx rfl), (hB.cell hb).trans (hc k 3 x _ hx rfl)⟩
theorem Rd_pages {w : World} {B n : Nat} {A : Option Addr} {l : List Pg} (h : Rd w B 4 A n (l.flatMap Pg.cells)) (hn : 0 < n) : ∃ b off, A = some ⟨b, off, none⟩ ∧ b < B ∧ ∀ (i j : Nat) (x : Pg) (u : Value), l[i]? = some x → x.cells[j]? = some u → w.cell? ⟨b, off + (i * 4 + j), none⟩ = some u := h.at_ Pg.len hn

theorem info16 : (Try.prog.info? 37).map (·.size) = some (arr zero16).size := by kernel_rfl
theorem size16 {l : List Int} (h : l.length = 16) : (Try.prog.info? 37).map (·.size) = some (arr l).size := by rw [arr_size, h]; exact info16
theorem load16 {w : World} {g : Nat} {l : List Int} (h : Ints w g 37 l) (hl : l.length = 16) : (loadVar 37 ⟨g, 0, none⟩).run Try.prog w = .ok (.agg (arr l)) w :=
  run_loadVar_row w g 37 37 (arr l) (0, 0) _ h Try.underlying37 rfl (size16 hl)

set_option maxHeartbeats 1600000 in
theorem fold_any (l : List Int) (A : Option Addr) (n c : Nat) (ps : List Pg) (w : World) (hl : l.length = 16) (hr : Rd w w.heap.size 4 A n (ps.flatMap Pg.cells)) (hps : ps.length = n) (hn : n ≤ 9223372036854775807) :
    Calls Try.prog 16 #[.agg (arr l), .slice A n c] w (Ret w (.tuple #[.agg (arr (foldL l ps).1), .int .i64 (foldL l ps).2])) := by
  have HL := Lib.hid hl
  have HR := Lib.hid hr
  have HP := Lib.hid hps
  clear hr hps hl
  go_enter Try.func16, Try.ntmps16
  go_wp2
  go_loopg [11] n (fun g i wr => ∃ (k : Nat) (cur : List Int), k ≤ n ∧ g = n - k ∧ i = .int .i64 k ∧ Hid (foldL l ps = foldL cur (ps.drop k)) ∧ cur.length = 16 ∧ Ints wr w.heap.size 37 cur ∧ Ints wr (w.heap.size + 1) 37 zero16 ∧ Below w.heap.size w wr)
  case atStart => exact ⟨0, l, Nat.zero_le _, rfl, rfl, Lib.hid (by simp), HL.out, (Ints.new w _ l).alloc _, by have := Ints.new (w.alloc (.cells (arr l) 37)) 37 zero16; simpa [arr, zero16] using this, ((Below.refl _ _).alloc (Nat.le_refl _) _).alloc (by simp) _⟩
  case round =>
    obtain ⟨k, cur, hk, rfl, rfl, HF, hcl, hi, hz, hB⟩ := hrel
    have HI := Lib.hid hi
    have HZ := Lib.hid hz
    have hz1 := hz.lt
    clear hi hz
    by_cases hlt : k < n
    · obtain ⟨b, off, rfl, hb, hc⟩ := Rd_pages HR.out (by omega)
      obtain ⟨x, hx⟩ : ∃ x, ps[k]? = some x := ⟨_, List.getElem?_eq_getElem (by rw [HP.out]; exact hlt)⟩
      obtain ⟨q0, q1, q2, q3⟩ := Pg.facts hb hB hc hx
      have HX := Lib.hid (drop_at hx)
      obtain ⟨xs, xn, xd, xw⟩ := x
      simp only at q0 q1 q2 q3
      have cS := Lib.hid (store_any w.heap.size 37 cur ⟨xs, xn, xd, xw⟩ _ (HI.out.alloc (.cells #[.int .i64 xs, .int .i64 xn, .int .i64 xd, .bool xw] 69)) hcl)
      clear hc hx
      go_wp2_with fail
      refine cS.out.mono ?_; rintro e w1 ⟨w2, hb2, h⟩
      have hB2 : Below w.heap.size w w2 := (hB.alloc hB.size _).trans (hb2.mono (by simp; have := hB.size; omega))
      have hi2 := (HI.out.alloc (.cells #[.int .i64 xs, .int .i64 xn, .int .i64 xd, .bool xw] 69)).later hb2
      have hz2 := (HZ.out.alloc (.cells #[.int .i64 xs, .int .i64 xn, .int .i64 xd, .bool xw] 69)).later hb2
      rcases h with ⟨hbad, rfl, rfl⟩ | ⟨hbad, rfl, rfl⟩
      · have HE : Hid (foldL l ps = (zero16, 2)) := Lib.hid (by rw [HF.out, HX.out, foldL, if_pos hbad])
        have HZ2 := Lib.hid hz2
        clear hbad hz2 hi2 HF
        go_wp2_with (refine wpList_store_row rfl 37 (.tmp 4) (.tmp 19) rfl (w.heap.size + 1) (arr zero16) rfl rfl 37 (arr zero16) HZ2.out info16 rfl (by kernel_rfl) ?_)
        have hz3 := HZ2.out.row zero16
        have hld := load16 hz3 rfl
        have hB3 := below_setRow hB2 (show w.heap.size ≤ w.heap.size + 1 by omega) (arr zero16)
        refine bodyPost_ret (v := .tuple #[.agg (arr zero16), .int .i64 2]) ?_ rfl ?_
        · simp [results, Try.results16, asAddr, Result.andThen, hld]
        · exact ⟨by rw [HE.out], hB3⟩
      · have HE : Hid (foldL l ps = foldL (setP cur ⟨xs, xn, xd, xw⟩) (ps.drop (k + 1))) := Lib.hid (by rw [HF.out, HX.out, foldL, hbad, if_neg (by simp)])
        have HI2 := Lib.hid (hi2.set (k := xn.toNat) xd)
        have HZ2 := Lib.hid (hz2.other (g' := w.heap.size) (k := xn.toNat) (by omega) (.int .i64 xd))
        clear hbad hz2 hi2 HF
        go_wp2
        go_roundg (n - (k + 1))
        case measure => omega
        case rel => exact ⟨k + 1, setP cur ⟨xs, xn, xd, xw⟩, by omega, rfl, by go_num, HE, by rw [setP_len]; exact hcl, HI2.out, HZ2.out, hB2.setCell (Nat.le_refl _) _⟩
    · have HE : Hid (foldL l ps = (cur, 0)) := Lib.hid (by rw [HF.out, List.drop_eq_nil_of_le (by rw [HP.out]; omega), foldL])
      clear HF
      go_wp2_with (first
        | refine wpList_load_row rfl 37 (.tmp 2) rfl w.heap.size rfl 37 (arr cur) (0, 0) (.array 16 3) HI.out Try.underlying37 rfl (size16 hcl) ?_
        | refine wpList_store_row rfl 37 (.tmp 4) (.tmp 22) rfl (w.heap.size + 1) (arr cur) rfl rfl 37 (arr zero16) HZ.out (size16 hcl) (by rw [arr_size, arr_size, hcl]; rfl) (arr_one cur) ?_)
      have hz3 := HZ.out.row cur
      have hld := load16 hz3 hcl
      have hB3 := below_setRow hB (show w.heap.size ≤ w.heap.size + 1 by omega) (arr cur)
      refine bodyPost_ret (v := .tuple #[.agg (arr cur), .int .i64 0]) ?_ rfl ?_
      · simp [results, Try.results16, asAddr, Result.andThen, hld]
      · exact ⟨by rw [HE.out], hB3⟩

set_option maxHeartbeats 1600000 in
theorem lfold_any (l : List Int) (A : Option Addr) (n c : Nat) (ps : List Pg) (w : World) (hl : l.length = 16) (hr : Rd w w.heap.size 4 A n (ps.flatMap Pg.cells)) (hps : ps.length = n) (hn : n ≤ 9223372036854775807) :
    Calls Try.prog 17 #[.agg (arr l), .slice A n c] w (Ret w (.tuple #[.agg (arr (foldL l ps).1), .int .i64 (foldL l ps).2])) := by
  have HL := Lib.hid hl
  have HR := Lib.hid hr
  have HP := Lib.hid hps
  have F1 := Lib.hid ((Ints.new w 37 l).alloc (.cells (arr zero16) 37))
  clear hr hps hl
  go_enter Try.func17, Try.ntmps17
  have F2 : Hid (Ints (((w.alloc (.cells (arr l) 37)).alloc (.cells (arr zero16) 37)).alloc (.cells (arr zero16) 37)) (w.heap.size + 1 + 1) 37 zero16) := Lib.hid (by
    have := Ints.new ((w.alloc (.cells (arr l) 37)).alloc (.cells (arr zero16) 37)) 37 zero16
    rwa [show ((w.alloc (.cells (arr l) 37)).alloc (.cells (arr zero16) 37)).heap.size = w.heap.size + 1 + 1 by simp] at this)
  go_wp2_with (first
    | refine wpList_load_row rfl 37 (.tmp 2) rfl w.heap.size rfl 37 (arr l) (0, 0) (.array 16 3) F1.out Try.underlying37 rfl (size16 HL.out) ?_
    | refine wpList_store_row rfl 37 (.tmp 6) (.tmp 9) rfl (w.heap.size + 1 + 1) (arr l) rfl rfl 37 (arr zero16) F2.out (size16 HL.out) (by rw [arr_size, arr_size, HL.out]; rfl) (arr_one l) ?_)
  have hs0 : Ints ((((w.alloc (.cells (arr l) 37)).alloc (.cells (arr zero16) 37)).alloc (.cells (arr zero16) 37)).setRow (w.heap.size + 1 + 1) (arr l)) (w.heap.size + 2) 37 l := F2.out.row l
  have hs1 : Ints ((((w.alloc (.cells (arr l) 37)).alloc (.cells (arr zero16) 37)).alloc (.cells (arr zero16) 37)).setRow (w.heap.size + 1 + 1) (arr l)) (w.heap.size + 1) 37 zero16 := by
    have := ((Ints.new (w.alloc (.cells (arr l) 37)) 37 zero16).alloc (.cells (arr zero16) 37)).rowOther (g' := w.heap.size + 1 + 1) (by simp) (arr l)
    rwa [show (w.alloc (.cells (arr l) 37)).heap.size = w.heap.size + 1 by simp] at this
  have hs2 : Below w.heap.size w ((((w.alloc (.cells (arr l) 37)).alloc (.cells (arr zero16) 37)).alloc (.cells (arr zero16) 37)).setRow (w.heap.size + 1 + 1) (arr l)) :=
    below_setRow ((((Below.refl _ _).alloc (Nat.le_refl _) _).alloc (by simp) _).alloc (by simp; omega) _) (by omega) _
  have HS0 := Lib.hid hs0
  have HS1 := Lib.hid hs1
  clear hs0 hs1 F1 F2
  go_loopg [12] n (fun g i wr => ∃ (k : Nat) (cur : List Int), k ≤ n ∧ g = n - k ∧ i = .int .i64 k ∧ Hid (foldL l ps = foldL cur (ps.drop k)) ∧ cur.length = 16 ∧ Ints wr (w.heap.size + 2) 37 cur ∧ Ints wr (w.heap.size + 1) 37 zero16 ∧ Below w.heap.size w wr)
  case atStart => exact ⟨0, l, Nat.zero_le _, rfl, rfl, Lib.hid (by simp), HL.out, HS0.out, HS1.out, hs2⟩
  case round =>
    obtain ⟨k, cur, hk, rfl, rfl, HF, hcl, hi, hz, hB⟩ := hrel
    have HI := Lib.hid hi
    have HZ := Lib.hid hz
    have hz1 := hi.lt
    clear hi hz
    by_cases hlt : k < n
    · obtain ⟨b, off, rfl, hb, hc⟩ := Rd_pages HR.out (by omega)
      obtain ⟨x, hx⟩ : ∃ x, ps[k]? = some x := ⟨_, List.getElem?_eq_getElem (by rw [HP.out]; exact hlt)⟩
      obtain ⟨q0, q1, q2, q3⟩ := Pg.facts hb hB hc hx
      have HX := Lib.hid (drop_at hx)
      obtain ⟨xs, xn, xd, xw⟩ := x
      simp only at q0 q1 q2 q3
      clear hc hx
      have HI2 := Lib.hid (HI.out.alloc (.cells #[.int .i64 xs, .int .i64 xn, .int .i64 xd, .bool xw] 69))
      have HZ2 := Lib.hid (HZ.out.alloc (.cells #[.int .i64 xs, .int .i64 xn, .int .i64 xd, .bool xw] 69))
      have hB2 : Below w.heap.size w (wr.alloc (.cells #[.int .i64 xs, .int .i64 xn, .int .i64 xd, .bool xw] 69)) := hB.alloc hB.size _
      by_cases h0 : xn < 0
      · have HE : Hid (foldL l ps = (zero16, 2)) := Lib.hid (by rw [HF.out, HX.out, foldL, if_pos (by simp [Pg.bad, h0])])
        clear HF
        go_wp2_with (refine wpList_store_row rfl 37 (.tmp 4) (.tmp 24) rfl (w.heap.size + 1) (arr zero16) rfl rfl 37 (arr zero16) HZ2.out info16 rfl (by kernel_rfl) ?_)
        have hld := load16 (HZ2.out.row zero16) rfl
        have hB3 := below_setRow hB2 (show w.heap.size ≤ w.heap.size + 1 by omega) (arr zero16)
        refine bodyPost_ret (v := .tuple #[.agg (arr zero16), .int .i64 2]) ?_ rfl ?_
        · simp [results, Try.results17, asAddr, Result.andThen, hld]
        · exact ⟨by rw [HE.out], hB3⟩
      · by_cases h1 : 15 < xn
        · have HE : Hid (foldL l ps = (zero16, 2)) := Lib.hid (by rw [HF.out, HX.out, foldL, if_pos (by simp [Pg.bad]; omega)])
          clear HF
          go_wp2_with (refine wpList_store_row rfl 37 (.tmp 4) (.tmp 24) rfl (w.heap.size + 1) (arr zero16) rfl rfl 37 (arr zero16) HZ2.out info16 rfl (by kernel_rfl) ?_)
          have hld := load16 (HZ2.out.row zero16) rfl
          have hB3 := below_setRow hB2 (show w.heap.size ≤ w.heap.size + 1 by omega) (arr zero16)
          refine bodyPost_ret (v := .tuple #[.agg (arr zero16), .int .i64 2]) ?_ rfl ?_
          · simp [results, Try.results17, asAddr, Result.andThen, hld]
          · exact ⟨by rw [HE.out], hB3⟩
        · have HE : Hid (foldL l ps = foldL (setP cur ⟨xs, xn, xd, xw⟩) (ps.drop (k + 1))) := Lib.hid (by rw [HF.out, HX.out, foldL, if_neg (by simp [Pg.bad]; omega)])
          obtain ⟨m, rfl⟩ := Int.eq_ofNat_of_zero_le (show 0 ≤ xn by omega)
          obtain ⟨x, hx⟩ : ∃ x, cur[m]? = some x := ⟨_, List.getElem?_eq_getElem (by omega)⟩
          have i0 : (0 : Int) ≤ (m : Int) := by omega
          have i1 : (m : Int) < 16 := by omega
          have u0 := HI.out.froz (k := m)
          have u1 := HI.out.cell hx
          have v0 := HI2.out.froz (k := m)
          have v1 := HI2.out.cell hx
          have HI3 := Lib.hid ((HI.out.set (k := m) xd).alloc (.cells #[.int .i64 xs, .int .i64 (m : Int), .int .i64 xd, .bool xw] 69))
          have HZ3 := Lib.hid ((HZ.out.other (g' := w.heap.size + 1 + 1) (k := m) (by omega) (.int .i64 xd)).alloc (.cells #[.int .i64 xs, .int .i64 (m : Int), .int .i64 xd, .bool xw] 69))
          have hB3 := (hB.setCell (p := ⟨w.heap.size + 1 + 1, m, none⟩) (by simp; omega) (.int .i64 xd)).alloc (by have := hB.size; simp; omega) (.cells #[.int .i64 xs, .int .i64 (m : Int), .int .i64 xd, .bool xw] 69)
          clear hx HF
          go_wp2
          go_roundg (n - (k + 1))
          case measure => omega
          case rel => exact ⟨k + 1, setP cur ⟨xs, m, xd, xw⟩, by omega, rfl, by go_num, HE, by rw [setP_len]; exact hcl, HI3.out, HZ3.out, hB3⟩
    · have HE : Hid (foldL l ps = (cur, 0)) := Lib.hid (by rw [HF.out, List.drop_eq_nil_of_le (by rw [HP.out]; omega), foldL])
      clear HF
      go_wp2_with (first
        | refine wpList_load_row rfl 37 (.tmp 6) rfl (w.heap.size + 1 + 1) rfl 37 (arr cur) (0, 0) (.array 16 3) HI.out Try.underlying37 rfl (size16 hcl) ?_
        | refine wpList_store_row rfl 37 (.tmp 4) (.tmp 31) rfl (w.heap.size + 1) (arr cur) rfl rfl 37 (arr zero16) HZ.out (size16 hcl) (by rw [arr_size, arr_size, hcl]; rfl) (arr_one cur) ?_)
      have hld := load16 (HZ.out.row cur) hcl
      have hB3 := below_setRow hB (show w.heap.size ≤ w.heap.size + 1 by omega) (arr cur)
      refine bodyPost_ret (v := .tuple #[.agg (arr cur), .int .i64 0]) ?_ rfl ?_
      · simp [results, Try.results17, asAddr, Result.andThen, hld]
      · exact ⟨by rw [HE.out], hB3⟩
end Mount
end Go.Proofs.Ytljdfkejhgaciaa
