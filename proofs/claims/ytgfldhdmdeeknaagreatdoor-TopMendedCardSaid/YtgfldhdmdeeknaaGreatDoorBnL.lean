/-
  Walks of bench.line and of the reference's yline. Conditions: none beyond each theorem's own premises.
-/
import Derived.Test.YtgfldhdmdeeknaaGreatDoorBnW
import Derived.Test.YtgfldhdmdeeknaaGreatDoorBnYb
import Derived.Test.YtgfldhdmdeeknaaGreatDoorBnG
import Derived.Lib.ItoaLen
namespace Go.Proofs.YtgfldhdmdeeknaaGreatDoor
open Go.RowKit Go.Shelf Go.Sort
set_option linter.unusedVariables false
namespace Bn

theorem itoa_any (k : Int) (h0 : -9223372036854775808 ≤ k) (h1 : k ≤ 9223372036854775807) (w : World) (hg : Gl w) : Calls Tryz.prog 18 #[.int .i64 k] w (Ret w (.string (bs (Lib.itoa k)))) :=
  (Any.strconv_Itoa Tryz.itoaN k h0 h1 w hg.tab).mono fun e w' ⟨he, q, os, hw⟩ => ⟨he, by rw [hw]; exact grow_below q os⟩
/-- what line hands back -/
def LineR (o : So.Op) : Value := .tuple #[.string (bs (lt o)), .bool (lk o)]
theorem lt_write (nm dt : By) (k : Int) : bs (lt ⟨1, bs nm, bs dt, k⟩) = ⟨#[119, 114, 105, 116, 101, 32]⟩ ++ bs nm ++ ⟨#[32]⟩ ++ bs (hx dt) := by
  have e1 : (⟨#[119, 114, 105, 116, 101, 32]⟩ : ByteArray) = bs [119, 114, 105, 116, 101, 32] := rfl
  have e2 : (⟨#[32]⟩ : ByteArray) = bs [32] := rfl
  rw [e1, e2, bs_cat, bs_cat, bs_cat]
  have e : lt ⟨1, bs nm, bs dt, k⟩ = pW ++ 32 :: ((bs nm).data.toList ++ 32 :: hx (bs dt).data.toList) := rfl
  rw [e, bs_data, bs_data]
  simp [pW]
theorem lt_remove (nm : By) (dt : ByteArray) (k : Int) : bs (lt ⟨2, bs nm, dt, k⟩) = ⟨#[114, 101, 109, 111, 118, 101, 32]⟩ ++ bs nm := by
  have e1 : (⟨#[114, 101, 109, 111, 118, 101, 32]⟩ : ByteArray) = bs [114, 101, 109, 111, 118, 101, 32] := rfl
  rw [e1, bs_cat]
  have e : lt ⟨2, bs nm, dt, k⟩ = pM ++ 32 :: (bs nm).data.toList := rfl
  rw [e, bs_data]
  simp [pM]
theorem lt_read (nm : By) (dt : ByteArray) (k : Int) : bs (lt ⟨3, bs nm, dt, k⟩) = ⟨#[114, 101, 97, 100, 32]⟩ ++ bs nm := by
  have e1 : (⟨#[114, 101, 97, 100, 32]⟩ : ByteArray) = bs [114, 101, 97, 100, 32] := rfl
  rw [e1, bs_cat]
  have e : lt ⟨3, bs nm, dt, k⟩ = pR ++ 32 :: (bs nm).data.toList := rfl
  rw [e, bs_data]
  simp [pR]
theorem lt_crash (nm dt : ByteArray) (k : Int) : bs (lt ⟨5, nm, dt, k⟩) = ⟨#[99, 114, 97, 115, 104, 32]⟩ ++ bs (Lib.itoa k) := by
  have e1 : (⟨#[99, 114, 97, 115, 104, 32]⟩ : ByteArray) = bs [99, 114, 97, 115, 104, 32] := rfl
  rw [e1, bs_cat]
  have e : lt ⟨5, nm, dt, k⟩ = pC ++ 32 :: Lib.itoa k := rfl
  rw [e]
  simp [pC]
theorem hx_len (x : By) : (hx x).length ≤ 2 * x.length + 1 := by
  unfold hx
  split
  · simp
  · rw [Lib.Hx.encode_length]; omega

set_option maxRecDepth 100000 in
set_option maxHeartbeats 3200000 in
theorem line_any (kind : Int) (nm dt : By) (keep : Int) (N D : ByteArray) (hN : bs nm = N) (hD : bs dt = D) (hn : nm.length ≤ 67108865) (hd : dt.length ≤ 67108865) (h0 : -9223372036854775808 ≤ keep) (h1 : keep ≤ 9223372036854775807) (w : World) (hg : Gl w) :
    Calls Tryz.prog 22 #[.agg #[.int .i64 kind, .string N, .string D, .int .i64 keep]] w (Ret w (LineR ⟨kind, N, D, keep⟩)) := by
  have HG := Lib.hid hg
  have c0 := (Blk.new w 56 [.int .i64 kind, .string N, .string D, .int .i64 keep]).cell (k := 0) rfl
  have c1 := (Blk.new w 56 [.int .i64 kind, .string N, .string D, .int .i64 keep]).cell (k := 1) rfl
  have c2 := (Blk.new w 56 [.int .i64 kind, .string N, .string D, .int .i64 keep]).cell (k := 2) rfl
  have c3 := (Blk.new w 56 [.int .i64 kind, .string N, .string D, .int .i64 keep]).cell (k := 3) rfl
  have HB := Lib.hid ((Below.refl w.heap.size w).alloc (Nat.le_refl _) (.cells #[.int .i64 kind, .string N, .string D, .int .i64 keep] 56))
  have cW := Lib.hid (fun W => isWord_any nm N hN (by omega) W)
  have cD := Lib.hid (fun W => digits_any dt D hD hd W)
  have hNs : N.size = nm.length := by rw [← hN, bs_size]
  have hxl := hx_len dt
  have hXs : (bs (hx dt)).size = (hx dt).length := bs_size _
  have hle : (bs (hx dt)).size ≤ 134217736 := by omega
  have hnl : N.size ≤ 67108865 := by omega
  have L1 := Lib.hid (lt_write nm dt keep)
  have L2 := Lib.hid (lt_remove nm D keep)
  have L3 := Lib.hid (lt_read nm D keep)
  have L5 := Lib.hid (lt_crash N D keep)
  rw [hN] at L1 L2 L3
  rw [hD] at L1
  have HWD : Hid (wd N.data.toList = wd nm) := Lib.hid (by rw [← hN, bs_data])
  clear hg hNs hxl hXs hN hD hn hd
  generalize bs (hx dt) = X at cD L1 hle
  obtain ⟨wv, hwv⟩ : ∃ wv, wd nm = wv := ⟨_, rfl⟩
  rw [hwv] at cW HWD
  clear hwv
  go_enter Tryz.func22, Tryz.ntmps22
  go_upto_region 1 with (fail)
  generalize w.alloc (.cells #[.int .i64 kind, .string N, .string D, .int .i64 keep] 56) = wo at c0 c1 c2 c3 HB ⊢
  generalize w.heap.size = gx at c0 c1 c2 c3 ⊢
  go_wp2_with fail
  refine (cW.out wo).mono ?_; rintro en w1 ⟨rfl, hb1⟩
  have HB1 := Lib.hid (HB.out.trans (hb1.mono HB.out.size))
  have d0 := cell_later c0 hb1
  have d1 := cell_later c1 hb1
  have d2 := cell_later c2 hb1
  have d3 := cell_later c3 hb1
  clear c0 c1 c2 c3 hb1 HB cW
  by_cases k1 : kind = 1
  · subst k1
    have HK : Hid (lk ⟨1, N, D, keep⟩ = wv) := HWD
    go_upto_region 4 with (fail)
    have e1 := fun z : LaterOf w1 => z.cell d1
    have e2 := fun z : LaterOf w1 => z.cell d2
    have dD := Lib.hid (fun z : LaterOf w1 => cD.out z.w)
    have z1 : 6 + N.size ≤ 9223372036854775807 := by omega
    have z2 : 6 + N.size + 1 ≤ 9223372036854775807 := by omega
    have z3 : 6 + N.size + 1 + X.size ≤ 9223372036854775807 := by omega
    clear cD d1 d2
    refine wp_region_later (by kernel_rfl) (by kernel_rfl) ?_
    repeat (go_big_quiet_step (with_reducible exact Calls.later (dD.out _)))
    refine wpQuiet_nil ?_; intro xw hw'; obtain ⟨xq, hw''⟩ := hw'; obtain ⟨xw0, xh⟩ := xq; change xw = xw0 at hw''; subst hw''
    have HF := Lib.hid (HB1.out.trans (xh.mono HB1.out.size))
    go_wp2
    refine bodyPost_ret (v := LineR ⟨1, N, D, keep⟩) (by simp [results, Tryz.results22, LineR, L1.out, HK.out]) rfl ?_
    exact Ret.mk rfl HF.out
  · have k1' : (kind == 1) = false := by simp [k1]
    by_cases k2 : kind = 2
    · subst k2
      have HK : Hid (lk ⟨2, N, D, keep⟩ = wv) := HWD
      have z1 : 7 + N.size ≤ 9223372036854775807 := by omega
      go_wp2
      refine bodyPost_ret (v := LineR ⟨2, N, D, keep⟩) (by simp [results, Tryz.results22, LineR, L2.out, HK.out]) rfl ?_
      exact Ret.mk rfl HB1.out
    · have k2' : (kind == 2) = false := by simp [k2]
      by_cases k3 : kind = 3
      · subst k3
        have HK : Hid (lk ⟨3, N, D, keep⟩ = wv) := HWD
        have z1 : 5 + N.size ≤ 9223372036854775807 := by omega
        go_wp2
        refine bodyPost_ret (v := LineR ⟨3, N, D, keep⟩) (by simp [results, Tryz.results22, LineR, L3.out, HK.out]) rfl ?_
        exact Ret.mk rfl HB1.out
      · have k3' : (kind == 3) = false := by simp [k3]
        by_cases k4 : kind = 4
        · subst k4
          go_wp2
          refine bodyPost_ret (v := LineR ⟨4, N, D, keep⟩) (by simp [results, Tryz.results22, LineR]; exact ⟨rfl, rfl⟩) rfl ?_
          exact Ret.mk rfl HB1.out
        · have k4' : (kind == 4) = false := by simp [k4]
          by_cases k5 : kind = 5
          · subst k5
            obtain ⟨rb, hrb⟩ : ∃ rb, (decide (0 ≤ keep) && decide (keep ≤ 1099511627776)) = rb := ⟨_, rfl⟩
            have HK : Hid (lk ⟨5, N, D, keep⟩ = rb) := Lib.hid hrb
            have HRB := Lib.hid hrb
            have hil := Lib.itoa_length_le keep h0 h1
            obtain ⟨X5, hX5⟩ : ∃ X5, bs (Lib.itoa keep) = X5 := ⟨_, rfl⟩
            have hX5s : X5.size ≤ 21 := by rw [← hX5, bs_size]; exact hil
            have dI := Lib.hid (fun z : LaterOf w1 => itoa_any keep h0 h1 z.w (HG.out.later (HB1.out.trans (z.h.mono HB1.out.size))))
            rw [hX5] at dI L5
            go_upto_region 12 with (fail)
            have e3 := fun z : LaterOf w1 => z.cell d3
            have z1 : 6 + X5.size ≤ 9223372036854775807 := by omega
            clear d1 d2 d3 hrb hX5
            by_cases q0 : 0 ≤ keep
            · by_cases q1 : keep ≤ 1099511627776
              · obtain rfl : rb = true := by rw [← HRB.out, decide_eq_true q0, decide_eq_true q1]; rfl
                refine wp_region_later (by kernel_rfl) (by kernel_rfl) ?_
                repeat (go_big_quiet_step (with_reducible exact Calls.later (dI.out _)))
                refine wpQuiet_nil ?_; intro xw hw'; obtain ⟨xq, hw''⟩ := hw'; obtain ⟨xw0, xh⟩ := xq; change xw = xw0 at hw''; subst hw''
                have HF := Lib.hid (HB1.out.trans (xh.mono HB1.out.size))
                go_wp2
                refine bodyPost_ret (v := LineR ⟨5, N, D, keep⟩) (by simp [results, Tryz.results22, LineR, L5.out, HK.out]) rfl ?_
                exact Ret.mk rfl HF.out
              · obtain rfl : rb = false := by rw [← HRB.out, decide_eq_false q1, Bool.and_false]
                refine wp_region_later (by kernel_rfl) (by kernel_rfl) ?_
                repeat (go_big_quiet_step (with_reducible exact Calls.later (dI.out _)))
                refine wpQuiet_nil ?_; intro xw hw'; obtain ⟨xq, hw''⟩ := hw'; obtain ⟨xw0, xh⟩ := xq; change xw = xw0 at hw''; subst hw''
                have HF := Lib.hid (HB1.out.trans (xh.mono HB1.out.size))
                go_wp2
                refine bodyPost_ret (v := LineR ⟨5, N, D, keep⟩) (by simp [results, Tryz.results22, LineR, L5.out, HK.out]) rfl ?_
                exact Ret.mk rfl HF.out
            · obtain rfl : rb = false := by rw [← HRB.out, decide_eq_false q0]; rfl
              refine wp_region_later (by kernel_rfl) (by kernel_rfl) ?_
              repeat (go_big_quiet_step (with_reducible exact Calls.later (dI.out _)))
              refine wpQuiet_nil ?_; intro xw hw'; obtain ⟨xq, hw''⟩ := hw'; obtain ⟨xw0, xh⟩ := xq; change xw = xw0 at hw''; subst hw''
              have HF := Lib.hid (HB1.out.trans (xh.mono HB1.out.size))
              go_wp2
              refine bodyPost_ret (v := LineR ⟨5, N, D, keep⟩) (by simp [results, Tryz.results22, LineR, L5.out, HK.out]) rfl ?_
              exact Ret.mk rfl HF.out
          · have k5' : (kind == 5) = false := by simp [k5]
            have HT : Hid (LineR ⟨kind, N, D, keep⟩ = .tuple #[.string ⟨#[]⟩, .bool false]) := Lib.hid (by simp [LineR, lt, lk, k1, k2, k3, k4, k5]; rfl)
            go_wp2
            refine bodyPost_ret (v := LineR ⟨kind, N, D, keep⟩) (by rw [HT.out]; simp [results, Tryz.results22]) rfl ?_
            exact Ret.mk rfl HB1.out
end Bn
end Go.Proofs.YtgfldhdmdeeknaaGreatDoor
