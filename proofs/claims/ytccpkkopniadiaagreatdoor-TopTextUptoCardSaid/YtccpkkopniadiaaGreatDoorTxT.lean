/-
  Walks of strings.HasPrefix at 'ok' and of the law TopText. Conditions: none beyond each theorem's own premises.
-/
import Derived.Test.YtccpkkopniadiaaGreatDoorBnA
import Derived.Test.YtccpkkopniadiaaGreatDoorBnTt
import Derived.Test.YtccpkkopniadiaaGreatDoorBnPp
namespace Go.Proofs.YtccpkkopniadiaaGreatDoor
open Go.RowKit Go.Shelf Go.Sort
set_option linter.unusedVariables false
namespace So
open _root_.Go.Proofs.YtccpkkopniadiaaGreatDoor.Bn _root_.Go.Proofs.YtccpkkopniadiaaGreatDoor.Dr

theorem slice_two (x : By) (h : 2 ≤ x.length) (W : World) : (Instr.slice 9 (.string (bs x)) none (some (.int .i64 2)) none).run Tryz.prog W = .ok (.string (bs (x.take 2))) W := by
  rw [run_slice_string_h W 9 _ Tryz.underlying9 .i64 2 (by omega) (by rw [bs_size]; omega)]
  rw [bs_ext _ (x.take 2) 0 _ (by rw [bs_data]; rfl)]
set_option maxRecDepth 100000 in
theorem hasPrefix_any (x : By) (S : ByteArray) (hS : bs x = S) (h2 : 2 ≤ x.length) (hl : x.length ≤ 500) (b : Bool) (hb : (x.take 2 == [111, 107]) = b) (w : World) :
    Calls Tryz.prog 12 #[.string S, .string ⟨#[111, 107]⟩] w (Ret w (.bool b)) := by
  have hsl := slice_two x h2
  rw [hS] at hsl
  have z1 : ((bs (x.take 2)).toList == [111, 107]) = b := by rw [bs_toList, hb]
  obtain ⟨T, hT⟩ : ∃ T, bs (x.take 2) = T := ⟨_, rfl⟩
  obtain ⟨N, hN⟩ : ∃ N, x.length = N := ⟨_, rfl⟩
  have hsz : S.size = N := by rw [← hS, bs_size, hN]
  have i0 : (2 : Int) ≤ (N : Int) := by omega
  rw [hT] at hsl z1
  have cI : Hid (∀ W, Calls Tryz.prog 30 #[.string S, .string ⟨#[111, 107]⟩] W (Ret W (.bool b))) := Lib.hid (fun W => by
    clear hN hT hb hl hS h2
    go_enter Tryz.func30, Tryz.ntmps30
    go_wp2
    go_ret
    exact Ret.mk rfl (Below.refl _ _))
  clear hN hT hb hl hS h2 hsl z1 hsz i0
  go_enter Tryz.func12, Tryz.ntmps12
  go_wp2_with fail
  refine (cI.out w).mono ?_; rintro en w1 ⟨rfl, hb1⟩
  have B1 := Lib.hid hb1
  clear hb1 cI
  go_wp2
  go_ret
  exact Ret.mk rfl B1.out

set_option maxRecDepth 100000 in
set_option maxHeartbeats 3200000 in
theorem topText_walk (A : Option Addr) (n c : Nat) (l : List Op) (w : World) (hr : Rd w w.heap.size 4 A n (l.flatMap Op.cells)) (hl : l.length = n) (hn : n ≤ 67108865) (hok : ∀ o ∈ l, OkO o) (ht : (txt l).length ≤ 67108865) (hg : Gl w) :
    Calls Tryz.prog 4 #[.slice A n c] w (Ret w (.bool true)) := by
  have cA := Lib.hid (alive_any w hg)
  by_cases hall : l.all lk = true
  · have hall' := List.all_eq_true.1 hall
    obtain ⟨an, D1, C1, hp⟩ := plays_ex l mno [] 0 cnt_no
    obtain ⟨hp2, hch⟩ := plays_cn hp (fun x hx => by cases hx) hall'
    have hbd := plays_bd hp fb_no (fun x hx => by cases hx)
    have hpr : PR (txt l) [] (some (l.map cn)) 0 := by have h := txt_pr l [] hall'; rwa [List.nil_append] at h
    have hpp : printR l = .tuple #[.string (bs (txt l)), .int .i64 0] := if_pos hall
    have cP := Lib.hid (fun W (hW : Below w.heap.size w W) => print_any A n c l W (hr.later hW) hl hn hok (by omega) (hg.later hW))
    rw [hpp] at cP
    have cT := Lib.hid (fun W (hW : Below w.heap.size w W) => tell_ok (txt l) (bs (txt l)) rfl ht (l.map cn) 0 hpr an D1 (C1.map cn) hp2 W (hg.later hW))
    rw [now_cn C1 D1 hch] at cT
    have cY := Lib.hid (fun W (hW : Below w.heap.size w W) => play_any A n c l an D1 C1 W (hr.later hW) hl (by omega) hp (fun o ho => ⟨Nat.le_trans (hok o ho).1 (by decide), Nat.le_trans (hok o ho).2.1 (by decide)⟩))
    have HAL : Hid (an.length = n) := Lib.hid (by rw [plays_len hp, hl])
    have HCL : Hid ((l.map cn).length = n) := Lib.hid (by rw [List.length_map, hl])
    have HAB := Lib.hid hbd.2.2
    obtain ⟨T, hT⟩ : ∃ T, bs (txt l) = T := ⟨_, rfl⟩
    rw [hT] at cP cT
    obtain ⟨os, hos⟩ : ∃ os, l.map cn = os := ⟨_, rfl⟩
    rw [hos] at cT HCL
    clear hr hl hok ht hg hall hall' hp hp2 hch hbd hpr hpp hT hos
    go_enter Tryz.func4, Tryz.ntmps4
    go_wp2_with fail
    refine cA.out.mono ?_; rintro en w1 ⟨rfl, hb1⟩
    have B1 := Lib.hid hb1
    clear hb1 cA
    go_wp2_with fail
    refine (cP.out w1 B1.out).mono ?_; rintro en w2 ⟨rfl, hb2⟩
    have B2 := Lib.hid (B1.out.trans (hb2.mono B1.out.size))
    clear hb2 cP B1
    go_wp2_with fail
    refine (cT.out w2 B2.out).mono ?_; rintro en w3 ⟨ks, A5, p, c5, HK, HP, hpc, hpb, rfl, hs3⟩
    have H3 := Lib.hid (((Sep.nil_ w).later B2.out).join hs3)
    clear hs3 cT B2
    go_wp2_with fail
    refine (cY.out w3 H3.out.below).mono ?_; rintro en w4 ⟨A7, c7, A8, m, c8, ks', rfl, HLK, HK', hc7, hm, hs4⟩
    obtain rfl : ks' = ks := kept_one HK'.out HK.out
    have H4 := Lib.hid (H3.out.join hs4)
    obtain ⟨Ls, hLs⟩ : ∃ Ls, tells os an ks' = Ls := ⟨_, rfl⟩
    have HPN : Hid (p = n + m) := Lib.hid (by
      rw [← HP.out]
      unfold tells
      rw [List.length_append, List.length_map, List.length_zipWith, HCL.out, HAL.out, HLK.out, Nat.min_self])
    have HLN : Hid (∀ (k : Nat) (a : An), an[k]? = some a → ∃ o, Ls[k]? = some (aln o a)) := Lib.hid (fun k a ha => by
      obtain ⟨hk, _⟩ := List.getElem?_eq_some_iff.1 ha
      obtain ⟨o, ho⟩ : ∃ o, os[k]? = some o := ⟨_, List.getElem?_eq_getElem (by rw [HCL.out]; rw [HAL.out] at hk; exact hk)⟩
      refine ⟨o, ?_⟩
      rw [← hLs]
      unfold tells
      rw [List.getElem?_append_left (by rw [List.length_zipWith, HCL.out, HAL.out]; rw [HAL.out] at hk; omega), List.getElem?_zipWith, ho, ha])
    rw [hLs] at H4
    have v1 : (n : Int) + (m : Int) = (p : Int) := by have := HPN.out; omega
    clear hs4 cY H3 HK HK' HP hLs
    go_wp2
    go_loopg [53] n (fun g i wr => ∃ k : Nat, k ≤ n ∧ g = n - k ∧ i = .int .i64 (k : Int) ∧ Sep w wr [.row 9 1 (.slice A5 p c5) p (Ls.flatMap tc), aR A7 n c7 an, kR A8 m c8 ks'])
    case atStart => exact ⟨0, Nat.zero_le _, rfl, rfl, H4.out⟩
    case round =>
      clear H4
      obtain ⟨k, hk, rfl, rfl, hs⟩ := hrel
      have HS := Lib.hid hs
      clear hs
      by_cases hlt : k < n
      · have i0 : (0 : Int) ≤ (k : Int) := by omega
        have i1 : (k : Int) < (n : Int) := by omega
        have i2 : (k : Int) < (p : Int) := by have := HPN.out; omega
        obtain ⟨⟨er, dd⟩, ha⟩ : ∃ a, an[k]? = some a := ⟨_, List.getElem?_eq_getElem (by rw [HAL.out]; exact hlt)⟩
        obtain ⟨o, ho⟩ := HLN.out k _ ha
        obtain ⟨b, off, rfl, hb, hc⟩ := (HS.out.rd 1 rfl).at_ An.len (by omega)
        have q0 : wr.cell? ⟨b, off + k * 2, none⟩ = some (.int .i64 er) := hc k 0 _ _ ha rfl
        have q1 : wr.cell? ⟨b, off + k * 2 + 1, none⟩ = some (.string dd) := hc k 1 _ _ ha rfl
        have HA1 := HAB.out _ (List.mem_of_getElem? ha)
        have hlen := aln_le o ⟨er, dd⟩ HA1
        have htwo := aln_two o ⟨er, dd⟩
        obtain ⟨b1, hb1, hb2⟩ : ∃ b1 : Bool, ((aln o ⟨er, dd⟩).take 2 == [111, 107]) = b1 ∧ (er == 0) = b1 := by
          by_cases h0 : er = 0
          · exact ⟨true, aln_ok0 _ _ h0, by simp [h0]⟩
          · exact ⟨false, aln_ok1 _ _ h0, by simp [h0]⟩
        have dH := Lib.hid (fun W => hasPrefix_any (aln o ⟨er, dd⟩) _ rfl htwo hlen b1 hb1 W)
        have HS2 : Hid (Sep w (wr.alloc (.cells #[.int .i64 er, .string dd] 37)) [.row 9 1 (.slice A5 p c5) p (Ls.flatMap tc), aR (some ⟨b, off, none⟩) n c7 an, kR A8 m c8 ks', .cells wr.heap.size 37 [.int .i64 er, .string dd]]) := Lib.hid (HS.out.new 37 [.int .i64 er, .string dd])
        clear hc hb ha HS hlen htwo hb1 HA1
        go_upto_region 13 with (fail)
        clear q0 q1
        generalize wr.alloc (.cells #[.int .i64 er, .string dd] 37) = wo at HS2 ⊢
        generalize wr.heap.size = gx at HS2 ⊢
        obtain ⟨b2, off2, rfl, hb2', hc2⟩ := (HS2.out.rd 0 rfl).at_ tc_len (by omega)
        have e0 : wo.cell? ⟨b2, off2 + k, none⟩ = some (.string (bs (aln o ⟨er, dd⟩))) := by simpa using hc2 k 0 _ _ ho rfl
        have p0 := HS2.out.cell 3 rfl (k := 0) rfl
        generalize bs (aln o ⟨er, dd⟩) = Z at e0 dH
        have e0' := fun z : LaterOf wo => z.cell e0
        have p0' := fun z : LaterOf wo => z.cell p0
        have dW := Lib.hid (fun z : LaterOf wo => dH.out z.w)
        clear e0 p0 hc2 hb2' ho dH
        refine wp_region_later (by kernel_rfl) (by kernel_rfl) ?_
        repeat (go_big_quiet_step (with_reducible exact Calls.later (dW.out _)))
        refine wpQuiet_nil ?_; intro xw hw'; obtain ⟨xq, hw''⟩ := hw'; obtain ⟨xw0, xh⟩ := xq; change xw = xw0 at hw''; subst hw''
        have HS9 := Lib.hid ((HS2.out.later xh).pick [0, 1, 2] (by decide) (by simp))
        clear HS2 dW
        cases b1 with
        | true =>
          go_wp2
          go_roundg (n - (k + 1))
          case measure => omega
          case rel => exact ⟨k + 1, by omega, rfl, by go_num, HS9.out⟩
        | false =>
          go_wp2
          go_roundg (n - (k + 1))
          case measure => omega
          case rel => exact ⟨k + 1, by omega, rfl, by go_num, HS9.out⟩
      · have HF := Lib.hid HS.out.below
        clear HS
        go_wp2
        go_ret
        exact Ret.mk rfl HF.out
  · have hpp : printR l = .tuple #[.string ⟨#[]⟩, .int .i64 2] := if_neg hall
    have cP := Lib.hid (fun W (hW : Below w.heap.size w W) => print_any A n c l W (hr.later hW) hl hn hok (by omega) (hg.later hW))
    rw [hpp] at cP
    have z1 : (⟨#[]⟩ : ByteArray).toList.isEmpty = true := by show (bs []).toList.isEmpty = true; rw [bs_toList]; rfl
    clear hr hl hok ht hg hall hpp
    go_enter Tryz.func4, Tryz.ntmps4
    go_wp2_with fail
    refine cA.out.mono ?_; rintro en w1 ⟨rfl, hb1⟩
    have B1 := Lib.hid hb1
    clear hb1 cA
    go_wp2_with fail
    refine (cP.out w1 B1.out).mono ?_; rintro en w2 ⟨rfl, hb2⟩
    have B2 := Lib.hid (B1.out.trans (hb2.mono B1.out.size))
    clear hb2 cP B1
    go_wp2
    go_ret
    exact Ret.mk rfl B2.out
end So
end Go.Proofs.YtccpkkopniadiaaGreatDoor
