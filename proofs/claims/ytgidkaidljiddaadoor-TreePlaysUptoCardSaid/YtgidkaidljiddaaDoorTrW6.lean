/-
  Walks of package tree: step. Conditions: none beyond the theorem's own premises.
-/
import Derived.Test.YtgidkaidljiddaaDoorTrW5
import Derived.Test.YtgidkaidljiddaaDoorPtJ
namespace Go.Proofs.YtgidkaidljiddaaDoor
open Go.RowKit Go.Shelf
set_option linter.unusedVariables false
namespace Tr
open Dr Pt

def nodes (G : Nat → Nat) (F : Nat → Bool) (nn : Nat) : List It := (List.range nn).map (nC G F)
theorem nodes_at {G : Nat → Nat} {F : Nat → Bool} {nn a : Nat} (h : a < nn) : (nodes G F nn)[a]? = some (nC G F a) := by
  unfold nodes
  rw [List.getElem?_map, List.getElem?_range h]
  rfl
def setG (G : Nat → Nat) (nn g : Nat) : Nat → Nat := fun a => if a = nn then g else G a
theorem nodes_new (G : Nat → Nat) (F : Nat → Bool) (nn g : Nat) (b : Bool) : nodes (setG G nn g) (setF F nn b) (nn + 1) = nodes G F nn ++ [.cells g 35 [.bool b]] := by
  unfold nodes
  rw [List.range_succ, List.map_append]
  congr 1
  · refine List.map_congr_left fun a ha => ?_
    have h : a ≠ nn := by have := List.mem_range.1 ha; omega
    unfold nC setG setF
    rw [if_neg h, if_neg h]
  · simp [nC, setG, setF]
abbrev SL (g n : Nat) (h : ByteArray → Option Value) (X : List It) (G : Nat → Nat) (F : Nat → Bool) (nn : Nat) : List It := tm g n h :: (X ++ nodes G F nn)
theorem SL_node {g n : Nat} {h : ByteArray → Option Value} {X : List It} {G : Nat → Nat} {F : Nat → Bool} {nn a : Nat} (ha : a < nn) : (SL g n h X G F nn)[X.length + a + 1]? = some (nC G F a) := by
  unfold SL
  rw [List.getElem?_cons_succ, List.getElem?_append_right (by omega), show X.length + a - X.length = a by omega]
  exact nodes_at ha
theorem SL_nodeB {g n : Nat} {h : ByteArray → Option Value} {X : List It} {G : Nat → Nat} {F : Nat → Bool} {nn : Nat} {B : It} (a : Nat) (ha : a < nn) : ∃ j : Nat, (SL g n h X G F nn ++ [B])[j]? = some (nC G F a) := ⟨_, atI (SL_node ha)⟩
theorem SL_new {w0 w : World} {g n gn : Nat} {h : ByteArray → Option Value} {X : List It} {G : Nat → Nat} {F : Nat → Bool} {nn : Nat} {B : It} {b : Bool} (H : Sep w0 w (SL g n h X G F nn ++ [B] ++ [.cells gn 35 [.bool b]])) : Sep w0 w (SL g n h X (setG G nn gn) (setF F nn b) (nn + 1)) := by
  unfold SL at H ⊢
  rw [nodes_new, ← List.append_assoc, ← List.cons_append]
  exact H.sub ((List.sublist_append_left _ [B]).append_right _)
theorem tab_G {α : Type} {H : Tree} {v v' : Nat → α} {h : ByteArray → Option α} (T : Tab H v h) (e : ∀ l a, H l = some a → v a = v' a) : Tab H v' h := fun k x => by
  rw [T k x]
  constructor
  · rintro ⟨l, a, h1, h2, h3, rfl⟩
    exact ⟨l, a, h1, h2, h3, e l a h2⟩
  · rintro ⟨l, a, h1, h2, h3, rfl⟩
    exact ⟨l, a, h1, h2, h3, (e l a h2).symm⟩
abbrev oC (g : Nat) (k : Int) (x y : By) : It := .cells g 39 [.int .i64 k, .string (bs x), .string (bs y)]
def StepRet (w0 : World) (g : Nat) (X : List It) (n : Nat) (e : Int) (H' : Tree) (F' : Nat → Bool) (nn' : Nat) (en : Ending) (w' : World) : Prop :=
  en = .returned (.int .i64 e) ∧ ∃ n' h' G', n' ≤ n + 1 ∧ Tab H' (nv G') h' ∧ Sep w0 w' (SL g n' h' X G' F' nn')
theorem clean_len (x : By) (hx : x.length ≤ 1048576) : (ppath (parts x)).length ≤ 1048577 := by
  have h := parts_sum x
  by_cases e : parts x = []
  · rw [e]
    show 1 ≤ _
    omega
  · rw [ppath_ne e, slashed_len]
    omega

set_option maxRecDepth 100000 in
set_option maxHeartbeats 6400000 in
theorem step_any (w0 w : World) (X : List It) (g n : Nat) (h : ByteArray → Option Value) (G : Nat → Nat) (F : Nat → Bool) (nn : Nat) (H : Tree) (kind : Int) (x y : By) (K : Nat) (e : Int) (H' : Tree) (F' : Nat → Bool) (nn' : Nat)
    (hS : Sep w0 w (SL g n h X G F nn)) (T : Tab H (nv G) h) (I : TI H F nn) (hx : x.length ≤ 1048576) (hy : y.length ≤ 1048576)
    (hn : n ≤ 5864062014804) (hK : ∀ m a, H m = some a → (ppath m).length ≤ K) (hKb : K ≤ 9223372036850000000) (hw : Way H F nn ⟨kind, parts x, parts y⟩ e H' F' nn') :
    Calls Tryd.prog 8 #[.map (some g), .agg #[.int .i64 kind, .string (bs x), .string (bs y)]] w (StepRet w0 g X n e H' F' nn') := by
  have C1 := Lib.hid (fun W => show Calls Tryd.prog 18 #[.string (bs x)] W (Ret W (.string (P (parts x)))) from clean_any x (by omega) W)
  have C2 := Lib.hid (fun W => show Calls Tryd.prog 18 #[.string (bs y)] W (Ret W (.string (P (parts y)))) from clean_any y (by omega) W)
  have LP := Lib.hid (clean_len x hx)
  have LQ := Lib.hid (clean_len y hy)
  have CP := Lib.hid (cl_parts x)
  have CQ := Lib.hid (cl_parts y)
  have HW := Lib.hid hw
  generalize parts x = p at C1 LP CP HW
  generalize parts y = q at C2 LQ CQ HW
  have HT := Lib.hid T
  have HI := Lib.hid I
  have HK := Lib.hid hK
  have HS1 : Hid (Sep w0 (w.alloc (.cells #[.int .i64 kind, .string (bs x), .string (bs y)] 39)) (SL g n h X G F nn ++ [oC w.heap.size kind x y])) := Lib.hid (hS.new 39 [.int .i64 kind, .string (bs x), .string (bs y)])
  have k1 : (P p).size ≤ maxLen := by have := LP.out; rw [P_size]; simp only [maxLen]; omega
  have k2 : (P q).size ≤ maxLen := by have := LQ.out; rw [P_size]; simp only [maxLen]; omega
  have K1 := Lib.hid k1
  have K2 := Lib.hid k2
  clear hw T I hK hx hy hS k1 k2
  go_enter Tryd.func8, Tryd.ntmps8
  go_upto_region 1 with (fail)
  generalize w.alloc (.cells #[.int .i64 kind, .string (bs x), .string (bs y)] 39) = w1 at HS1 ⊢
  generalize w.heap.size = gb at HS1 ⊢
  have p1 := fun z : LaterOf w1 => z.cell (HS1.out.cell (SL g n h X G F nn).length atL (k := 1) rfl)
  have p2 := fun z : LaterOf w1 => z.cell (HS1.out.cell (SL g n h X G F nn).length atL (k := 2) rfl)
  have D1 := Lib.hid (fun z : LaterOf w1 => C1.out z.w)
  have D2 := Lib.hid (fun z : LaterOf w1 => C2.out z.w)
  clear C1 C2
  refine wp_region_later (by kernel_rfl) (by kernel_rfl) ?_
  repeat (go_big_quiet_step (first | with_reducible exact Calls.later (D1.out _) | with_reducible exact Calls.later (D2.out _)))
  refine wpQuiet_nil ?_; intro xw hw'; obtain ⟨xq, hw''⟩ := hw'; obtain ⟨xw0, xh⟩ := xq; change xw = xw0 at hw''; subst hw''
  have HS := Lib.hid (HS1.out.later xh)
  clear p1 p2 D1 D2 xh HS1
  have e0 := HS.out.cell (SL g n h X G F nn).length atL (k := 0) rfl
  have HL : Hid ((Instr.lookup 37 (.map (some g)) (.string (P p)) false).run Tryd.prog xw = .ok ((h (P p)).elim (.pointer none) (fun v => v)) xw) := Lib.hid (HS.out.look 0 rfl kstr K1.out Tryd.underlying37 (szp xw))
  rw [tab_look HT.out CP.out] at HL
  have HSE : Hid (Tab H (nv G) h ∧ Sep w0 xw (SL g n h X G F nn)) := Lib.hid ⟨HT.out, HS.out.sub (List.sublist_append_left _ _)⟩
  have hw := HW.out
  clear HW
  cases hw with
  | low h1 =>
    have h1' : kind < 1 := h1
    clear h1 HL
    go_wp2
    go_ret
    exact ⟨rfl, n, h, G, by omega, HSE.out.1, HSE.out.2⟩
  | high h1 =>
    have h1' : kind > 5 := h1
    have h2' : ¬ kind < 1 := by omega
    clear h1 HL
    go_wp2
    go_ret
    exact ⟨rfl, n, h, G, by omega, HSE.out.1, HSE.out.2⟩
  | newE h1 hf he =>
    have he' : (e == 0) = false := by simpa using he
    have cF := Lib.hid (fresh_any w0 xw _ 0 g n h G F nn H p e HS.out rfl HT.out HI.out (fun a ha => SL_nodeB a ha) hf CP.out LP.out)
    have h1' : kind = 1 ∨ kind = 2 := h1
    clear h1 HL hf he
    rcases h1' with rfl | rfl
    · go_wp2_with fail
      refine cF.out.mono ?_; rintro en w2 ⟨rfl, hb2⟩
      have HSF := Lib.hid (HSE.out.2.later hb2)
      clear hb2 cF
      go_wp2
      go_ret
      exact ⟨rfl, n, h, G, by omega, HSE.out.1, HSF.out⟩
    · go_wp2_with fail
      refine cF.out.mono ?_; rintro en w2 ⟨rfl, hb2⟩
      have HSF := Lib.hid (HSE.out.2.later hb2)
      clear hb2 cF
      go_wp2
      go_ret
      exact ⟨rfl, n, h, G, by omega, HSE.out.1, HSF.out⟩
  | new h1 hf =>
    have cF := Lib.hid (fresh_any w0 xw _ 0 g n h G F nn H p 0 HS.out rfl HT.out HI.out (fun a ha => SL_nodeB a ha) hf CP.out LP.out)
    have h1' : kind = 1 ∨ kind = 2 := h1
    clear h1 HL hf
    rcases h1' with rfl | rfl
    · go_wp2_with fail
      refine cF.out.mono ?_; rintro en w2 ⟨rfl, hb2⟩
      have HS2 := Lib.hid (HS.out.later hb2)
      have f0 := HS2.out.cell (SL g n h X G F nn).length atL (k := 0) rfl
      obtain ⟨w5, hst, _, K5⟩ := (HS2.out.new 35 [.bool true]).store 0 rfl kstr K1.out Tryd.underlying37 (by simp only [maxLen]; omega) (.pointer (some ⟨w2.heap.size, 0, none⟩))
      have HK5 : Hid (Sep w0 w5 (SL g (if (h (P p)).isSome then n else n + 1) (mup h (P p) (.pointer (some ⟨w2.heap.size, 0, none⟩))) X (setG G nn w2.heap.size) (setF F nn true) (nn + 1))) := Lib.hid (SL_new K5)
      have HT5 : Hid (Tab (put H p nn) (nv (setG G nn w2.heap.size)) (mup h (P p) (.pointer (some ⟨w2.heap.size, 0, none⟩)))) := Lib.hid (by
        have T1 : Tab H (nv (setG G nn w2.heap.size)) h := tab_G HT.out fun l a ha => by
          have : a ≠ nn := by have := HI.out.low l a ha; omega
          unfold nv setG
          rw [if_neg this]
        have T2 := tab_put T1 CP.out nn
        have e : nv (setG G nn w2.heap.size) nn = .pointer (some ⟨w2.heap.size, 0, none⟩) := by unfold nv setG; rw [if_pos rfl]
        rw [e] at T2
        exact T2)
      clear hb2 cF K5 e0
      go_wp2
      go_ret
      exact ⟨rfl, _, _, setG G nn w2.heap.size, by split <;> omega, HT5.out, HK5.out⟩
    · go_wp2_with fail
      refine cF.out.mono ?_; rintro en w2 ⟨rfl, hb2⟩
      have HS2 := Lib.hid (HS.out.later hb2)
      have f0 := HS2.out.cell (SL g n h X G F nn).length atL (k := 0) rfl
      obtain ⟨w5, hst, _, K5⟩ := (HS2.out.new 35 [.bool false]).store 0 rfl kstr K1.out Tryd.underlying37 (by simp only [maxLen]; omega) (.pointer (some ⟨w2.heap.size, 0, none⟩))
      have HK5 : Hid (Sep w0 w5 (SL g (if (h (P p)).isSome then n else n + 1) (mup h (P p) (.pointer (some ⟨w2.heap.size, 0, none⟩))) X (setG G nn w2.heap.size) (setF F nn false) (nn + 1))) := Lib.hid (SL_new K5)
      have HT5 : Hid (Tab (put H p nn) (nv (setG G nn w2.heap.size)) (mup h (P p) (.pointer (some ⟨w2.heap.size, 0, none⟩)))) := Lib.hid (by
        have T1 : Tab H (nv (setG G nn w2.heap.size)) h := tab_G HT.out fun l a ha => by
          have : a ≠ nn := by have := HI.out.low l a ha; omega
          unfold nv setG
          rw [if_neg this]
        have T2 := tab_put T1 CP.out nn
        have e : nv (setG G nn w2.heap.size) nn = .pointer (some ⟨w2.heap.size, 0, none⟩) := by unfold nv setG; rw [if_pos rfl]
        rw [e] at T2
        exact T2)
      clear hb2 cF K5 e0
      go_wp2
      go_ret
      exact ⟨rfl, _, _, setG G nn w2.heap.size, by split <;> omega, HT5.out, HK5.out⟩
  | none h1 h2 h3 =>
    have h1' : 3 ≤ kind := h1
    have h2' : kind ≤ 5 := h2
    have h3' : H p = none := h3
    rw [h3'] at HL
    have l1 := HL.out
    simp only [Option.map, Option.elim] at l1
    have j1 : ¬ kind < 1 := by omega
    have j2 : ¬ kind > 5 := by omega
    have j3 : (kind == 1) = false := by simp; omega
    have j4 : (kind == 2) = false := by simp; omega
    clear h1 h2 h3 h3' h1' h2' HL
    go_wp2
    go_ret
    exact ⟨rfl, n, h, G, by omega, HSE.out.1, HSE.out.2⟩
  | @moveRoot a h1 hp h0 =>
    obtain rfl : kind = 4 := h1
    have hp' : H p = some a := hp
    rw [hp'] at HL
    have l1 := HL.out
    simp only [Option.map, Option.elim] at l1
    clear hp' HL
    have cM := Lib.hid (move_no w0 xw _ 0 g n h G F nn H p q 2 HS.out rfl HT.out HI.out (fun a ha => SL_nodeB a ha) CP.out CQ.out LP.out LQ.out (.inl ⟨h0, rfl⟩))
    clear hp h0
    go_wp2_with fail
    refine cM.out.mono ?_; rintro en w2 ⟨rfl, hb2⟩
    have HSF := Lib.hid (HSE.out.2.later hb2)
    clear hb2 cM
    go_wp2
    go_ret
    exact ⟨rfl, n, h, G, by omega, HSE.out.1, HSF.out⟩
  | @moveSame a h1 hp h0 hq =>
    obtain rfl : kind = 4 := h1
    have hp' : H p = some a := hp
    rw [hp'] at HL
    have l1 := HL.out
    simp only [Option.map, Option.elim] at l1
    clear hp' HL
    have cM := Lib.hid (move_no w0 xw _ 0 g n h G F nn H p q 0 HS.out rfl HT.out HI.out (fun a ha => SL_nodeB a ha) CP.out CQ.out LP.out LQ.out (.inr (.inl ⟨h0, hq, rfl⟩)))
    clear hp h0 hq
    go_wp2_with fail
    refine cM.out.mono ?_; rintro en w2 ⟨rfl, hb2⟩
    have HSF := Lib.hid (HSE.out.2.later hb2)
    clear hb2 cM
    go_wp2
    go_ret
    exact ⟨rfl, n, h, G, by omega, HSE.out.1, HSF.out⟩
  | @moveIn a h1 hp h0 hq hi =>
    obtain rfl : kind = 4 := h1
    have hp' : H p = some a := hp
    rw [hp'] at HL
    have l1 := HL.out
    simp only [Option.map, Option.elim] at l1
    clear hp' HL
    have cM := Lib.hid (move_no w0 xw _ 0 g n h G F nn H p q 9 HS.out rfl HT.out HI.out (fun a ha => SL_nodeB a ha) CP.out CQ.out LP.out LQ.out (.inr (.inr (.inl ⟨h0, hq, hi, rfl⟩))))
    clear hp h0 hq hi
    go_wp2_with fail
    refine cM.out.mono ?_; rintro en w2 ⟨rfl, hb2⟩
    have HSF := Lib.hid (HSE.out.2.later hb2)
    clear hb2 cM
    go_wp2
    go_ret
    exact ⟨rfl, n, h, G, by omega, HSE.out.1, HSF.out⟩
  | @moveE a _ h1 hp h0 hq hi hf he =>
    obtain rfl : kind = 4 := h1
    have hp' : H p = some a := hp
    rw [hp'] at HL
    have l1 := HL.out
    simp only [Option.map, Option.elim] at l1
    clear hp' HL
    have cM := Lib.hid (move_no w0 xw _ 0 g n h G F nn H p q e HS.out rfl HT.out HI.out (fun a ha => SL_nodeB a ha) CP.out CQ.out LP.out LQ.out (.inr (.inr (.inr ⟨h0, hq, hi, he, hf⟩))))
    clear hp h0 hq hi hf he
    go_wp2_with fail
    refine cM.out.mono ?_; rintro en w2 ⟨rfl, hb2⟩
    have HSF := Lib.hid (HSE.out.2.later hb2)
    clear hb2 cM
    go_wp2
    go_ret
    exact ⟨rfl, n, h, G, by omega, HSE.out.1, HSF.out⟩
  | @move a h1 hp h0 hq hi hf =>
    obtain rfl : kind = 4 := h1
    have hp' : H p = some a := hp
    rw [hp'] at HL
    have l1 := HL.out
    simp only [Option.map, Option.elim] at l1
    clear hp' HL
    have cM := Lib.hid (move_go w0 xw _ 0 g n h G F nn H p q a K HS.out rfl HT.out HI.out (fun a ha => SL_nodeB a ha) CP.out CQ.out LP.out LQ.out (by omega) HK.out hKb hp h0 hq hi hf)
    clear hp h0 hq hi hf
    go_wp2_with fail
    refine cM.out.mono ?_; rintro en w2 ⟨rfl, n', h', hn', HT', hs2⟩
    have HS2 := Lib.hid hs2
    have HT2 := Lib.hid HT'
    have HN2 := Lib.hid hn'
    clear hs2 HT' hn' cM
    go_wp2
    go_ret
    exact ⟨rfl, n', h', G, by have := HN2.out; omega, HT2.out, HS2.out.sub (List.sublist_append_left (SL g n' h' X G F nn) _)⟩
  | @linkF a h1 hp hF =>
    obtain rfl : kind = 5 := h1
    have hp' : H p = some a := hp
    rw [hp'] at HL
    have l1 := HL.out
    simp only [Option.map, Option.elim] at l1
    have HD : Hid (xw.cell? ⟨G a, 0, none⟩ = some (.bool (F a))) := Lib.hid (by
      obtain ⟨j, hj⟩ := SL_nodeB (g := g) (n := n) (h := h) (X := X) (G := G) (F := F) (B := oC gb 5 x y) a (HI.out.low _ _ hp')
      exact HS.out.cell j hj (k := 0) rfl)
    clear hp' HL
    have d0 : xw.cell? ⟨G a, 0, none⟩ = some (.bool true) := by have := HD.out; rwa [hF] at this
    clear hp hF
    go_wp2
    go_ret
    exact ⟨rfl, n, h, G, by omega, HSE.out.1, HSE.out.2⟩
  | @linkE a _ h1 hp hF hf he =>
    obtain rfl : kind = 5 := h1
    have hp' : H p = some a := hp
    rw [hp'] at HL
    have l1 := HL.out
    simp only [Option.map, Option.elim] at l1
    have HD : Hid (xw.cell? ⟨G a, 0, none⟩ = some (.bool (F a))) := Lib.hid (by
      obtain ⟨j, hj⟩ := SL_nodeB (g := g) (n := n) (h := h) (X := X) (G := G) (F := F) (B := oC gb 5 x y) a (HI.out.low _ _ hp')
      exact HS.out.cell j hj (k := 0) rfl)
    clear hp' HL
    have d0 : xw.cell? ⟨G a, 0, none⟩ = some (.bool false) := by have := HD.out; rwa [hF] at this
    have he' : (e == 0) = false := by simpa using he
    have cF := Lib.hid (fresh_any w0 xw _ 0 g n h G F nn H q e HS.out rfl HT.out HI.out (fun a ha => SL_nodeB a ha) hf CQ.out LQ.out)
    clear hp hF hf he
    go_wp2_with fail
    refine cF.out.mono ?_; rintro en w2 ⟨rfl, hb2⟩
    have HSF := Lib.hid (HSE.out.2.later hb2)
    clear hb2 cF
    go_wp2
    go_ret
    exact ⟨rfl, n, h, G, by omega, HSE.out.1, HSF.out⟩
  | @link a h1 hp hF hf =>
    obtain rfl : kind = 5 := h1
    have hp' : H p = some a := hp
    rw [hp'] at HL
    have l1 := HL.out
    simp only [Option.map, Option.elim] at l1
    have HD : Hid (xw.cell? ⟨G a, 0, none⟩ = some (.bool (F a))) := Lib.hid (by
      obtain ⟨j, hj⟩ := SL_nodeB (g := g) (n := n) (h := h) (X := X) (G := G) (F := F) (B := oC gb 5 x y) a (HI.out.low _ _ hp')
      exact HS.out.cell j hj (k := 0) rfl)
    clear hp' HL
    have d0 : xw.cell? ⟨G a, 0, none⟩ = some (.bool false) := by have := HD.out; rwa [hF] at this
    have cF := Lib.hid (fresh_any w0 xw _ 0 g n h G F nn H q 0 HS.out rfl HT.out HI.out (fun a ha => SL_nodeB a ha) hf CQ.out LQ.out)
    clear hp hF hf
    go_wp2_with fail
    refine cF.out.mono ?_; rintro en w2 ⟨rfl, hb2⟩
    obtain ⟨w5, hst, _, K5⟩ := (HSE.out.2.later hb2).store 0 rfl kstr K2.out Tryd.underlying37 (by simp only [maxLen]; omega) (nv G a)
    have HK5 : Hid (Sep w0 w5 (SL g (if (h (P q)).isSome then n else n + 1) (mup h (P q) (nv G a)) X G F nn)) := Lib.hid K5
    have HT5 := Lib.hid (tab_put HT.out CQ.out a)
    clear hb2 cF K5
    go_wp2
    go_ret
    exact ⟨rfl, _, _, G, by split <;> omega, HT5.out, HK5.out⟩
  | @remRoot a h1 hp h0 =>
    obtain rfl : kind = 3 := h1
    have hp' : H p = some a := hp
    rw [hp'] at HL
    have l1 := HL.out
    simp only [Option.map, Option.elim] at l1
    clear hp' HL
    have h0' : p = [] := h0
    have z1 : ((P p).toList == [47]) = true := by rw [h0']; exact P_root
    clear h0 h0' hp
    go_wp2
    go_ret
    exact ⟨rfl, n, h, G, by omega, HSE.out.1, HSE.out.2⟩
  | @remHeld a h1 hp h0 t ht hk =>
    obtain rfl : kind = 3 := h1
    have hp' : H p = some a := hp
    rw [hp'] at HL
    have l1 := HL.out
    simp only [Option.map, Option.elim] at l1
    clear hp' HL
    have z1 : ((P p).toList == [47]) = false := P_notroot CP.out h0
    have cB := Lib.hid (below_any w0 xw _ 0 g n h G H p HS.out rfl HT.out HI.out.clean CP.out LP.out (by omega))
    have HKK := Lib.hid hk
    have HTT := Lib.hid ht
    clear h0 hp hk ht
    go_wp2_with fail
    refine cB.out.mono ?_; rintro en w2 ⟨A, m, c, ts, rfl, hm, hmn, hco, hs2⟩
    have m0 : (m : Int) > 0 := by
      have h3 := List.length_pos_of_mem ((hco.2 t).2 ⟨HTT.out, HKK.out, List.not_mem_nil⟩)
      omega
    have HSF : Hid (Sep w0 w2 (SL g n h X G F nn)) := Lib.hid (hs2.sub ((List.sublist_append_left _ _).trans (List.sublist_append_left _ _)))
    clear hs2 cB hco hm hmn HKK
    go_wp2
    go_ret
    exact ⟨rfl, n, h, G, by omega, HSE.out.1, HSF.out⟩
  | @rem a h1 hp h0 hno =>
    obtain rfl : kind = 3 := h1
    have hp' : H p = some a := hp
    rw [hp'] at HL
    have l1 := HL.out
    simp only [Option.map, Option.elim] at l1
    clear hp' HL
    have z1 : ((P p).toList == [47]) = false := P_notroot CP.out h0
    have cB := Lib.hid (below_any w0 xw _ 0 g n h G H p HS.out rfl HT.out HI.out.clean CP.out LP.out (by omega))
    have HNO := Lib.hid hno
    clear h0 hp hno
    go_wp2_with fail
    refine cB.out.mono ?_; rintro en w2 ⟨A, m, c, ts, rfl, hm, hmn, hco, hs2⟩
    have m0 : ¬ (m : Int) > 0 := by
      have h3 : ts = [] := List.eq_nil_iff_forall_not_mem.2 fun t ht => by
        obtain ⟨h4, h5, _⟩ := (hco.2 t).1 ht
        rw [show H (p ++ t) = none from HNO.out t h4] at h5
        cases h5
      rw [h3] at hm
      simp at hm
      omega
    have hs3 : Sep w0 w2 (SL g n h X G F nn) := hs2.sub ((List.sublist_append_left _ _).trans (List.sublist_append_left _ _))
    obtain ⟨w5, hdr, _, K5⟩ := hs3.drop 0 rfl kstr K1.out Tryd.underlying37
    have HK5 : Hid (Sep w0 w5 (SL g (if (h (P p)).isSome then n - 1 else n) (mdel h (P p)) X G F nn)) := Lib.hid K5
    have HT5 := Lib.hid (tab_del HT.out CP.out)
    clear hs2 hs3 cB hco hm hmn HNO K5
    go_wp2
    go_ret
    exact ⟨rfl, _, _, G, by split <;> omega, HT5.out, HK5.out⟩
end Tr
end Go.Proofs.YtgidkaidljiddaaDoor
