/-
  Walk of the reference's QPlay. Conditions: none beyond the theorem's own premises.
-/
import Derived.Test.YtgidkaidljiddaaDoorTrR2
import Derived.Test.YtgidkaidljiddaaDoorTrP
import Derived.Laws.EntriesVeiled
namespace Go.Proofs.YtgidkaidljiddaaDoor
open Go.RowKit Go.Shelf
set_option linter.unusedVariables false
namespace Tr
open Dr Pt

theorem Lf.rowCells {cur : List Lf} {m : Nat} {y : Lf} (hy : cur[m]? = some y) : (cur.flatMap Lf.cells)[m * 3]? = some (.string y.path) ∧ (cur.flatMap Lf.cells)[m * 3 + 1]? = some (.bool y.folder) ∧ (cur.flatMap Lf.cells)[m * 3 + 2]? = some (.int .i64 y.links) :=
  ⟨flat_get Lf.len cur m 0 y hy (by decide), flat_get Lf.len cur m 1 y hy (by decide), flat_get Lf.len cur m 2 y hy (by decide)⟩
/-- a leaf's count of links, while the table is walked -/
def LK (H : Tree) (F : Nat → Bool) (a : Nat) (s : List By) (todo : List ByteArray) (c : Nat) : Prop := (F a = true ∧ c = 1) ∨ (F a = false ∧ ∃ ls : List (List By), PartX H a s todo ls ∧ c = 1 + ls.length)
theorem lk_start {H : Tree} {V : Nat → Int} {h : ByteArray → Option Int} (T : Tab H V h) (hcl : ∀ m a, H m = some a → Cl m) {F : Nat → Bool} {a : Nat} {s : List By} {todo : List ByteArray} (hm : ∀ x, x ∈ todo ↔ (h x).isSome = true) : LK H F a s todo 1 := by
  cases hF : F a with
  | true => exact .inl ⟨hF, rfl⟩
  | false => exact .inr ⟨hF, [], partx_start T hcl hm, rfl⟩
theorem lk_skip {H : Tree} (hcl : ∀ m a, H m = some a → Cl m) {F : Nat → Bool} {a b : Nat} {s l : List By} {todo todo' : List ByteArray} {c : Nat} (C : LK H F a s todo c) (hl : H l = some b) (hne : F a = true ∨ l = s ∨ b ≠ a)
    (hme : ∀ y, y ∈ todo' ↔ (y ≠ P l ∧ y ∈ todo)) : LK H F a s todo' c := by
  rcases C with h | ⟨h1, ls, h2, h3⟩
  · exact .inl h
  · rcases hne with h | h
    · rw [h1] at h; cases h
    · exact .inr ⟨h1, ls, partx_skip hcl h2 hl h hme, h3⟩
theorem lk_add {H : Tree} (hcl : ∀ m a, H m = some a → Cl m) {F : Nat → Bool} {a : Nat} {s l : List By} {todo todo' : List ByteArray} {c : Nat} (C : LK H F a s todo c) (hF : F a = false) (hs : l ≠ s) (hl : H l = some a) (hin : P l ∈ todo)
    (hme : ∀ y, y ∈ todo' ↔ (y ≠ P l ∧ y ∈ todo)) : LK H F a s todo' (c + 1) := by
  rcases C with ⟨h, _⟩ | ⟨h1, ls, h2, h3⟩
  · rw [hF] at h; cases h
  · exact .inr ⟨h1, ls ++ [l], partx_add hcl h2 hs hl hin hme, by rw [List.length_append, List.length_singleton]; omega⟩
theorem lk_end {H : Tree} {F : Nat → Bool} {nn : Nat} (I : TI H F nn) {a : Nat} {s : List By} {c : Nat} (hs : H s = some a) (C : LK H F a s [] c) : Cnt H a c := by
  rcases C with ⟨h, rfl⟩ | ⟨h1, ls, h2, h3⟩
  · exact cnt_folder I hs h
  · have := partx_end hs h2
    rw [h3]
    rw [show ((1 + ls.length : Nat) : Int) = 1 + (ls.length : Int) by omega]
    exact this
theorem rtab0 (V : Nat → Int) (h0 : V 0 = 0) : Tab H0 V (mup mno (P []) 0) := by
  have := tab0 V
  rwa [h0] at this
theorem rv0 : RV F0 (fun _ => 0) 1 0 := by
  refine ⟨fun _ _ _ => rfl, fun a ha hF => ?_, fun _ _ => Int.le_refl _, Int.le_refl _, fun a b ha hb _ _ => by omega⟩
  obtain rfl : a = 0 := by omega
  cases hF

set_option maxRecDepth 100000 in
set_option maxHeartbeats 12800000 in
theorem qplay_any (Ad : Option Addr) (N cO : Nat) (ops : List TOp) (an : List Int) (H1 : Tree) (F1 : Nat → Bool) (n1 : Nat) (w : World) (hr : Rd w w.heap.size 3 Ad N (ops.flatMap TOp.cells)) (hl : ops.length = N) (hN : N ≤ 1048576) (hp : Plays H0 F0 1 (ops.map TOp.op) an H1 F1 n1)
    (hwf : ∀ o ∈ ops, o.x.length ≤ 1048576 ∧ o.y.length ≤ 1048576) :
    Calls Tryd.prog 5 #[.slice Ad N cO] w (PlayRet w N an H1 F1) := by
  obtain ⟨ti, hti, t0, t1, t2⟩ := info_parts err_info
  obtain ⟨tj, htj, j0, j1, j2⟩ := info_parts leaf_info
  have hmm := @run_makeMap Tryd.prog
  have hmf : ∀ (fn : Fn) (first cap : Array Value) (w : World), (Instr.makeFunc fn first cap).run Tryd.prog w = .ok (.func fn first cap) w := fun _ _ _ _ => rfl
  have eg3 : ∀ args w, (callFunc 17 args).run Tryd.prog w = .ok (.enter 17 args) w := enters_of Tryd.func17 (by kernel_rfl) rfl
  have HR := Lib.hid hr
  have HL := Lib.hid hl
  have HW := Lib.hid hwf
  have HF : Hid (∃ es', Plays H0 F0 1 ((ops.drop 0).map TOp.op) es' H1 F1 n1 ∧ an = [] ++ es') := Lib.hid ⟨an, hp, rfl⟩
  have S0 := (Sep.nil_ w).newMap Tryd.prog 9 Value.string (Value.int .i64)
  obtain ⟨w1, hst, hsz1, K1⟩ := S0.store 0 rfl kstr (x := P []) (by show 1 ≤ maxLen; simp [maxLen]) Tryd.underlying47 (by simp [maxLen]) (0 : Int)
  have S1 : Hid (Sep w w1 [rmap w.heap.size 1 (mup mno (P []) 0)]) := Lib.hid K1
  have hst' : (Instr.mapUpdate 47 (.map (some w.heap.size)) (.string ⟨#[47]⟩) (.int .i64 0)).run Tryd.prog (w.alloc (.map #[] 0)) = .ok () w1 := hst
  clear hr hl hp hwf S0 K1 hst hsz1
  go_enter Tryd.func5, Tryd.ntmps5
  go_upto_region 2 with (fail)
  clear hst' hmm
  generalize w.heap.size = gm at S1 ⊢
  have S2 : Hid (Sep w (w1.alloc (.cells #[.map (some gm)] 47)) [rmap gm 1 (mup mno (P []) 0), tC w1.heap.size gm]) := Lib.hid (S1.out.new 47 [.map (some gm)])
  clear S1
  generalize w1.alloc (.cells #[.map (some gm)] 47) = w2 at S2 ⊢
  generalize w1.heap.size = gt at S2 ⊢
  go_upto_region 3 with (fail)
  have S3 := Lib.hid (S2.out.new 3 [.int .i64 0])
  change Hid (Sep w (w2.alloc (.cells #[.int .i64 0] 3)) _) at S3
  clear S2
  generalize w2.alloc (.cells #[.int .i64 0] 3) = w3 at S3 ⊢
  generalize w2.heap.size = gf at S3 ⊢
  go_upto_region 4 with (fail)
  have S4 : Hid (Sep w (w3.alloc (.cells #[.func (.func 11) #[] #[]] 48)) [rmap gm 1 (mup mno (P []) 0), tC gt gm, .cells gf 3 [.int .i64 0], .cells w3.heap.size 48 [bV]]) := Lib.hid (S3.out.new 48 [bV])
  clear S3
  generalize w3.alloc (.cells #[.func (.func 11) #[] #[]] 48) = w4 at S4 ⊢
  generalize w3.heap.size = gb at S4 ⊢
  go_upto_region 5 with (fail)
  have S5 : Hid (Sep w (w4.alloc (.cells #[.func (.func 13) #[] #[.pointer (some ⟨gt, 0, none⟩)]] 53)) [rmap gm 1 (mup mno (P []) 0), tC gt gm, .cells gf 3 [.int .i64 0], .cells gb 48 [bV], .cells w4.heap.size 53 [fV gt]]) := Lib.hid (S4.out.new 53 [fV gt])
  clear S4
  generalize w4.alloc (.cells #[.func (.func 13) #[] #[.pointer (some ⟨gt, 0, none⟩)]] 53) = w5 at S5 ⊢
  generalize w4.heap.size = gr at S5 ⊢
  have S6 : Hid (Sep w w5 (RS gt gm gf gb gr 1 (mup mno (P []) 0) 0 [eR none 0 0 []])) := Lib.hid ((S5.out.nilRow 28 1 none).pick [1, 0, 2, 3, 4, 5] (by decide) (by simp))
  clear S5
  go_wp2
  clear hmf
  go_loopg [9, 26] N (fun q v9 i wr => ∃ (k : Nat) (A9 : Option Addr) (c9 : Nat) (gm n : Nat) (h : ByteArray → Option Int) (files : Int) (V : Nat → Int) (F : Nat → Bool) (nn : Nat) (H : Tree) (es : List Int), k ≤ N ∧ q = N - k ∧ i = .int .i64 (k : Int) ∧ v9 = .slice A9 k c9 ∧ Hid (es.length = k) ∧ n ≤ k + 1 ∧ files ≤ k ∧
    Hid (Tab H V h) ∧ Hid (TI H F nn) ∧ Hid (RV F V nn files) ∧ Hid (∀ m a, H m = some a → (ppath m).length ≤ (k + 1) * 1048577) ∧ Hid (∃ es', Plays H F nn ((ops.drop k).map TOp.op) es' H1 F1 n1 ∧ an = es ++ es') ∧ Sep w wr (RS gt gm gf gb gr n h files [eR A9 k c9 es]))
  case atStart => exact ⟨0, none, 0, gm, 1, _, 0, fun _ => 0, F0, 1, H0, [], Nat.zero_le _, rfl, rfl, rfl, Lib.hid rfl, Nat.le_refl _, Int.le_refl _, Lib.hid (rtab0 _ rfl), Lib.hid ti0, Lib.hid rv0, Lib.hid (fun m a hm => by
      unfold H0 at hm
      split at hm
      · next e => rw [e]; show 1 ≤ _; omega
      · cases hm), HF, S6.out⟩
  case round =>
    clear HF S6
    obtain ⟨k, A9, c9, gm, n, h, files, V, F, nn, H, es, hk, rfl, rfl, rfl, HEL, hnk, hfk, HT, HI, HV, HK, HF, hs⟩ := hrel
    have HS := Lib.hid hs
    clear hs
    by_cases hlt : k < N
    · obtain ⟨b, off, rfl, hb, hc⟩ := HR.out.at_ TOp.len (by omega)
      obtain ⟨o, ho⟩ : ∃ o, ops[k]? = some o := ⟨_, List.getElem?_eq_getElem (by rw [HL.out]; exact hlt)⟩
      have hbel := HS.out.below
      have q0 : wr.cell? ⟨b, off + k * 3, none⟩ = some (.int .i64 o.kind) := (hbel.cell hb).trans (hc k 0 o _ ho rfl)
      have q1 : wr.cell? ⟨b, off + k * 3 + 1, none⟩ = some (.string (bs o.x)) := (hbel.cell hb).trans (hc k 1 o _ ho rfl)
      have q2 : wr.cell? ⟨b, off + k * 3 + 2, none⟩ = some (.string (bs o.y)) := (hbel.cell hb).trans (hc k 2 o _ ho rfl)
      have i0 : (0 : Int) ≤ (k : Int) := by omega
      have i1 : (k : Int) < (N : Int) := by omega
      have HWF := Lib.hid (HW.out o (List.mem_of_getElem? ho))
      obtain ⟨er, H2, F2, n2, es1, HWAY, HP2, HAS⟩ : ∃ er H2 F2 n2 es1, Hid (Way H F nn o.op er H2 F2 n2) ∧ Hid (Plays H2 F2 n2 ((ops.drop (k + 1)).map TOp.op) es1 H1 F1 n1) ∧ Hid (an = (es ++ [er]) ++ es1) := by
        obtain ⟨es', h1, h2⟩ := HF.out
        obtain ⟨er, as', H2, F2, n2, rfl, hw, ht⟩ := plays_next h1 ho
        exact ⟨_, _, _, _, _, Lib.hid hw, Lib.hid ht, Lib.hid (by rw [h2]; simp)⟩
      have HEL2 : Hid ((es ++ [er]).length = k + 1) := Lib.hid (by rw [List.length_append, HEL.out]; rfl)
      have HI2 : Hid (TI H2 F2 n2) := Lib.hid (way_ok HI.out (cl_parts _) (cl_parts _) HWAY.out).1
      have HK2 : Hid (∀ m a, H2 m = some a → (ppath m).length ≤ (k + 1 + 1) * 1048577) := Lib.hid (fun m a hm => by
        have := way_long (K := (k + 1) * 1048577) HWAY.out (clean_len o.x HWF.out.1) (clean_len o.y HWF.out.2) (fun _ _ => Nat.le_trans (by decide) (Nat.le_mul_of_pos_left 1048577 (Nat.succ_pos k))) HK.out m a hm
        rw [Nat.succ_mul (k + 1) 1048577]
        exact this)
      have HS2 : Hid (Sep w (wr.alloc (.cells #[.int .i64 o.kind, .string (bs o.x), .string (bs o.y)] 39)) (RS gt gm gf gb gr n h files [eR A9 k c9 es]) ∧ Blk (wr.alloc (.cells #[.int .i64 o.kind, .string (bs o.x), .string (bs o.y)] 39)) wr.heap.size 39 o.cells) := Lib.hid ⟨HS.out.alloc _, Blk.new wr _ _⟩
      have hKb : (k + 1) * 1048577 ≤ 9223372036850000000 := by omega
      clear hc ho HF hbel
      go_upto_region 10 with (fail)
      clear HS q0 q1 q2
      generalize wr.alloc (.cells #[.int .i64 o.kind, .string (bs o.x), .string (bs o.y)] 39) = wo at HS2 ⊢
      generalize wr.heap.size = gx at HS2 ⊢
      have p0 := HS2.out.2.cell (k := 0) rfl
      have p1 := HS2.out.2.cell (k := 1) rfl
      have p2 := HS2.out.2.cell (k := 2) rfl
      have cD := Lib.hid (rstep_any w wo [eR A9 k c9 es] gt gm gf gb gr n h files V F nn H o.kind o.x o.y ((k + 1) * 1048577) er H2 F2 n2 HS2.out.1 HT.out HI.out HV.out HWF.out.1 HWF.out.2 (by omega) (by omega) HK.out hKb HWAY.out)
      go_wp2_with fail
      refine cD.out.mono ?_; rintro en w1 ⟨rfl, gm', n', h', V', files', hn', hf', HT', HV', hs1⟩
      have HT2 := Lib.hid HT'
      have HV2 := Lib.hid HV'
      have HH := Lib.hid hs1
      have hnew := Lib.hid (Rd.of_own (own_new w1 28 #[.int .i64 er] 1 1 rfl (by simp [maxLen]) (Nat.le_refl _)))
      clear hs1 HT' HV' cD p0 p1 p2 HS2 HT HI HK HWAY hKb HV
      go_wp2_with (at_builtin; refine wpList_append_sep (HH.out.alloc _) 5 rfl (.tmp 30) (.tmp 34) 23 rfl 28 ti (.int .i64 0) 1 8 Tryd.underlying23 hti t0 t1 t2 rfl (by omega) _ k _ rfl rfl _ _ 1 1 _ rfl hnew.out (by simp [Value.oneCell']) (by simp only [maxLen]; omega) (by omega) ?_; intro A6 c6 w6 hc6 hs6 H6'; have H6 := Lib.hid H6'; clear H6' hs6)
      go_roundg (N - (k + 1))
      case measure => omega
      case rel => exact ⟨k + 1, A6, c6, gm', n', h', files', V', F2, n2, H2, es ++ [er], by omega, rfl, by go_num, rfl, HEL2, by omega, by omega, HT2, HI2, HV2, HK2, Lib.hid ⟨es1, HP2.out, HAS.out⟩, by
        have h := H6.out
        unfold eR
        rw [List.flatMap_append]
        exact h⟩
    · obtain rfl : k = N := by omega
      obtain ⟨es', h1, h2⟩ := HF.out
      obtain ⟨rfl, rfl, rfl, rfl⟩ := plays_end h1 (by rw [HL.out]; exact Nat.le_refl _)
      rw [List.append_nil] at h2
      have HAN := Lib.hid h2
      have hkc : k ≤ c9 := by
        obtain ⟨A', c', e, h⟩ := (HS.out.rowHas 5 rfl).slice
        cases e
        exact h
      have c0 := HS.out.cell 0 rfl (k := 0) rfl
      obtain ⟨es2, clock, M, H2⟩ := HS.out.mapOpen 1 rfl
      obtain ⟨B, hB⟩ : ∃ B : List It, B = tC gt gm :: .obj gm (.map es2 clock) :: RT gf gb gr gt files [eR A9 k c9 es] := ⟨_, rfl⟩
      have H2' : Sep w wr B := by rw [hB]; exact H2
      have hB0 : B[0]? = some (tC gt gm) := by rw [hB]; rfl
      have hB1 : B[1]? = some (.obj gm (.map es2 clock)) := by rw [hB]; rfl
      have hB5 : B[5]? = some (eR A9 k c9 es) := by rw [hB]; rfl
      have hBl : 5 < B.length := by rw [hB]; simp
      obtain ⟨hrun, H3, todo0, R0, htl, hmem⟩ := H2'.rangeStart 1 hB1 M kstr Tryd.underlying47
      have HBG0 : Hid (LeafBag H1 F1 todo0 []) := Lib.hid (bag_start HT.out HI.out.clean F1 hmem)
      have HS0 : Hid (Sep w (wr.alloc (.mapIter (some gm) clock #[] clock)) (B ++ [.obj wr.heap.size (.mapIter (some gm) clock #[] clock), lR none 0 0 []])) := Lib.hid (by
        have h := H3.nilRow 31 3 none
        rw [List.append_assoc] at h
        exact h)
      have HM := Lib.hid M
      have HR0 := Lib.hid R0
      have HB0 := Lib.hid hB0
      have HB1 := Lib.hid hB1
      have HB5 := Lib.hid hB5
      have hnb : n ≤ 1048577 := by omega
      clear h1 h2 HF hlt H2 H2' H3 M R0 hB hB0 hB1 hB5 hmem HL HW HR hti t0 t1 t2 HEL HK HS hfk
      go_wp2
      clear hrun c0
      generalize wr.alloc (.mapIter (some gm) clock #[] clock) = wo at HS0 ⊢
      generalize wr.heap.size = r1 at HS0 ⊢
      go_loopg [12] todo0.length (fun q v12 wl => ∃ (todo : List ByteArray) (seen : Array Nat) (cc0 : Nat) (A12 : Option Addr) (c12 : Nat) (out : List Lf) (m : Nat), q = todo.length ∧ v12 = .slice A12 m c12 ∧ Hid (out.length = m) ∧ Hid (Rg Value.string es2 clock clock seen cc0 todo) ∧ Hid (LeafBag H1 F1 todo out) ∧ m + todo.length ≤ n ∧ Sep w wl (B ++ [.obj r1 (.mapIter (some gm) clock seen cc0), lR A12 m c12 out]))
      case atStart => exact ⟨todo0, #[], clock, none, 0, [], 0, rfl, rfl, Lib.hid rfl, HR0, HBG0, by omega, HS0.out⟩
      case round =>
        clear HS0 HR0 HBG0 wo htl
        obtain ⟨todo, seen, cc0, A12, c12, out, m, rfl, rfl, HOL, HRG, HBG, hmn, hs⟩ := hrel
        have HS := Lib.hid hs
        clear hs
        rcases HS.out.rangeNext2 1 B.length (by omega) (atI HB1.out) at0 HM.out kstr HRG.out 0 with ⟨rfl, hrun⟩ | ⟨x, v, w2, seen', todo', hx, hxa, hrun, hsz2, H2, R2, hen, hlen, hme⟩
        · have HLV : Hid (LeavesAre H1 F1 (Srt.isort ltL m out)) := Lib.hid (by rw [← HOL.out]; exact bag_end HBG.out)
          have HS2 : Hid (Sep w wr [eR A9 k c9 es, lR A12 m c12 (Srt.isort ltL 0 out)]) := Lib.hid (HS.out.sub ((List.singleton_sublist.2 (List.mem_of_getElem? HB5.out)).append (List.Sublist.cons _ (List.Sublist.refl _))))
          have hmb : m ≤ 1048577 := by omega
          clear HS HRG HM HI HBG HB0 HB1 HB5 hBl HT HV hmn
          go_wp2
          clear hrun
          go_loopg [79] m (fun g i wr => ∃ (a : Nat), a ≤ m ∧ g = m - a ∧ i = .int .i64 a ∧ Sep w wr [eR A9 k c9 es, lR A12 m c12 (Srt.isort ltL a out)])
          case atStart => exact ⟨0, Nat.zero_le _, rfl, rfl, HS2.out⟩
          case round =>
            clear HS2
            obtain ⟨a, ha, rfl, rfl, hs⟩ := hrel
            have HS := Lib.hid hs
            clear hs
            by_cases hlt : a < m
            · go_wp2
              go_loopg [19] a (fun g i wr => ∃ (cur : List Lf), g ≤ a ∧ i = .int .i64 (g : Int) ∧ cur.length = m ∧ Hid (Srt.sink ltL g cur = Srt.isort ltL (a + 1) out) ∧ Sep w wr [eR A9 k c9 es, lR A12 m c12 cur])
              case atStart => exact ⟨Srt.isort ltL a out, Nat.le_refl _, rfl, by rw [Srt.isort_len, HOL.out], Lib.hid rfl, HS.out⟩
              case round =>
                clear HS
                obtain ⟨cur, hg, rfl, hcl, HK, hs⟩ := hrel
                have HS := Lib.hid hs
                have HCL := Lib.hid hcl
                clear hs hcl
                rcases Nat.eq_zero_or_pos gk with h0 | hpos
                · subst h0
                  go_wp2
                  go_quiet (fail)
                  go_wp2
                  generalize hxw : World.drewN wr _ = xw
                  have xh : Below wr.heap.size wr xw := by rw [← hxw]; exact below_drewN (Below.refl _ _) _
                  clear hxw
                  go_roundg (m - (a + 1))
                  case measure => omega
                  case rel => exact ⟨a + 1, by omega, rfl, by go_num, by rw [← HK.out]; exact HS.out.later xh⟩
                · obtain ⟨p, hm⟩ : ∃ p, p + 1 = gk := ⟨gk - 1, by omega⟩
                  have hcl := HCL.out
                  obtain ⟨x, hx⟩ : ∃ x, cur[p + 1]? = some x := ⟨_, List.getElem?_eq_getElem (by omega)⟩
                  obtain ⟨y, hy⟩ : ∃ y, cur[p]? = some y := ⟨_, List.getElem?_eq_getElem (by omega)⟩
                  obtain ⟨lb, hlb⟩ : ∃ lb, ltN x.path y.path = lb := ⟨_, rfl⟩
                  have hK : Srt.sink ltL (p + 1) cur = Srt.isort ltL (a + 1) out := by rw [hm]; exact HK.out
                  have hgo : ltL x y = true → Srt.sink ltL p ((cur.set (p + 1) y).set p x) = Srt.isort ltL (a + 1) out := fun h => (Srt.sink_go ltL hx hy h).symm.trans hK
                  have hstop : ltL x y = false → cur = Srt.isort ltL (a + 1) out := fun h => (Srt.sink_stop ltL hx hy h).symm.trans hK
                  rw [hm] at hx hgo
                  clear hK
                  have HGO := Lib.hid hgo
                  have HSTOP := Lib.hid hstop
                  obtain ⟨p0, p1, p2⟩ := Lf.rowCells hx
                  obtain ⟨q0, q1, q2⟩ := Lf.rowCells hy
                  obtain ⟨g6, rfl, hg6, hat⟩ := HS.out.rowAt 1 rfl (by omega)
                  have d0 := (hat _).1 _ p0
                  have e0 := (hat _).1 _ q0
                  have i0 : (0 : Int) ≤ (p : Int) := by omega
                  have i1 : (p : Int) < (m : Int) := by omega
                  have i2 : decide (0 < gk) = true := decide_eq_true hpos
                  have i3 : (gk : Int) - 1 = (p : Int) := by omega
                  have i4 : (gk : Int) < (m : Int) := by omega
                  have hmg : p < gk := by omega
                  have hma : p ≤ a := by omega
                  unfold ltN at hlb
                  clear hat hx hy hgo hstop
                  cases lb with
                  | true =>
                    have HKN : Hid (Srt.sink ltL p ((cur.set gk y).set p x) = Srt.isort ltL (a + 1) out) := Lib.hid (HGO.out hlb)
                    clear HGO HSTOP
                    go_wp2
                    go_quiet (fail)
                    go_wp2
                    clear d0 e0
                    generalize hxw : World.drewN wr _ = xw
                    have xh : Below wr.heap.size wr xw := by rw [← hxw]; exact below_drewN (Below.refl _ _) _
                    clear hxw
                    have HSx := Lib.hid (HS.out.later xh)
                    obtain ⟨g', hg', _, hat⟩ := HSx.out.rowAt 1 rfl (by omega)
                    cases hg'
                    have d0 := (hat _).1 _ p0
                    have d1 := (hat _).1 _ p1
                    have d2 := (hat _).1 _ p2
                    have e0 := (hat _).1 _ q0
                    have e1 := (hat _).1 _ q1
                    have e2 := (hat _).1 _ q2
                    have u0 := (hat (gk * 3)).2.1
                    have u1 := (hat (gk * 3 + 1)).2.1
                    have u2 := (hat (gk * 3 + 2)).2.1
                    have u3 := (hat (p * 3)).2.1
                    have u4 := (hat (p * 3 + 1)).2.1
                    have u5 := (hat (p * 3 + 2)).2.1
                    have K := Lib.hid ((HSx.out.elem Lf.len 1 rfl gk (by omega) (by omega) y).elem Lf.len 1 rfl p (by simp; omega) (by omega) x)
                    clear hat HS HSx p0 p1 p2 q0 q1 q2 hcl xh hm hlb
                    go_region
                    all_goals
                      go_wp2
                      go_roundg p
                      case measure => exact hmg
                      case rel => exact ⟨(cur.set gk y).set p x, hma, rfl, by simp [HCL.out], HKN, K.out.drew⟩
                  | false =>
                    have HKN : Hid (cur = Srt.isort ltL (a + 1) out) := Lib.hid (HSTOP.out hlb)
                    clear HGO HSTOP p0 p1 p2 q0 q1 q2 hcl hm
                    go_wp2
                    go_quiet (fail)
                    go_wp2
                    generalize hxw : World.drewN wr _ = xw
                    have xh : Below wr.heap.size wr xw := by rw [← hxw]; exact below_drewN (Below.refl _ _) _
                    clear hxw
                    go_roundg (m - (a + 1))
                    case measure => omega
                    case rel => exact ⟨a + 1, by omega, rfl, by go_num, by rw [← HKN.out]; exact HS.out.later xh⟩
            · obtain rfl : a = m := by omega
              have HFIN : Hid (Sep w wr [eR A9 k c9 an, lR A12 a c12 (Srt.isort ltL a out)]) := Lib.hid (by rw [HAN.out]; exact HS.out)
              have HLF : Hid ((Srt.isort ltL a out).length = a) := Lib.hid (by rw [Srt.isort_len, HOL.out])
              clear HS
              go_wp2
              refine bodyPost_ret (v := .tuple #[.slice A9 k c9, .slice A12 a c12]) (by simp [results, Tryd.results5]) rfl ?_
              exact ⟨A9, c9, A12, a, c12, _, rfl, HLF, HLV, hkc, by omega, HFIN.out⟩
        · obtain ⟨l, a, hlc, hHl, rfl, rfl⟩ := tab_key HT.out hxa
          rw [set0] at H2
          have HX := Lib.hid hx
          have HME := Lib.hid hme
          have HHL := Lib.hid hHl
          have HR2 := Lib.hid R2
          have hal := HI.out.low _ _ hHl
          have hlen2 : todo'.length < todo.length := by omega
          by_cases hl0 : l = []
          · subst hl0
            have z1 := P_root
            have HBG2 : Hid (LeafBag H1 F1 todo' out) := Lib.hid (bag_root HI.out.clean HBG.out hme)
            have HS3 := Lib.hid H2
            clear H2 R2 HS hsz2 hx hxa hme hHl hlc hal HRG
            go_wp2
            go_roundg todo'.length
            case measure => omega
            case rel => exact ⟨todo', seen', clock, A12, c12, out, m, rfl, rfl, HOL, HR2, HBG2, by omega, HS3.out⟩
          · have z1 := P_notroot hlc hl0
            obtain ⟨fb, hfb⟩ : ∃ fb, F1 a = fb := ⟨_, rfl⟩
            have hx0 : (V a == 0) = fb := by
              cases fb with
              | true => rw [HV.out.fold a hal hfb]; rfl
              | false => have := HV.out.pos a hal hfb; simp; omega
            have HFB := Lib.hid hfb
            have HLc := Lib.hid hlc
            have HL0 := Lib.hid hl0
            have HAL := Lib.hid hal
            have HSl : Hid (Sep w (w2.alloc (.cells #[.string (P l), .bool fb, .int .i64 1] 31)) (B ++ [.obj r1 (.mapIter (some gm) clock seen' clock), lR A12 m c12 out] ++ [.cells w2.heap.size 31 [.string (P l), .bool fb, .int .i64 1]])) := Lib.hid (H2.new 31 [.string (P l), .bool fb, .int .i64 1])
            clear H2 R2 HS hsz2 hx hxa hme hHl hlc hal HRG hfb hl0
            go_upto_region 18 with (fail)
            clear hx0 z1 hrun hen
            generalize w2.alloc (.cells #[.string (P l), .bool fb, .int .i64 1] 31) = w3 at HSl ⊢
            generalize w2.heap.size = gl at HSl ⊢
            have c0 := HSl.out.cell 0 (atI (atI HB0.out)) (k := 0) rfl
            obtain ⟨hrun, H4, todo1, R1, htl1, hmem1⟩ := HSl.out.rangeStart 1 (atI (atI HB1.out)) HM.out kstr Tryd.underlying47
            obtain ⟨B2, hB2⟩ : ∃ B2 : List It, B2 = B ++ [.obj r1 (.mapIter (some gm) clock seen' clock), lR A12 m c12 out] := ⟨_, rfl⟩
            rw [← hB2] at H4
            have hB21 : B2[1]? = some (.obj gm (.map es2 clock)) := by rw [hB2]; exact atI HB1.out
            have hB2l : 1 < B2.length := by rw [hB2]; simp only [List.length_append, List.length_cons, List.length_nil]; omega
            have HB2 := Lib.hid hB2
            have HB21 := Lib.hid hB21
            have HLK0 : Hid (LK H1 F1 a l todo1 1) := Lib.hid (lk_start HT.out HI.out.clean hmem1)
            have HS4 : Hid (Sep w (w3.alloc (.mapIter (some gm) clock #[] clock)) (B2 ++ [.cells gl 31 [.string (P l), .bool fb, .int .i64 ((1 : Nat) : Int)], .obj w3.heap.size (.mapIter (some gm) clock #[] clock)])) := Lib.hid (by
              have h := H4
              rw [List.append_assoc] at h
              exact h)
            have HR1 := Lib.hid R1
            clear H4 R1 hmem1 hB2 hB21 HSl
            go_wp2
            clear hrun c0
            generalize w3.alloc (.mapIter (some gm) clock #[] clock) = w4 at HS4 ⊢
            generalize w3.heap.size = r2 at HS4 ⊢
            go_loopg [] todo1.length (fun q wl => ∃ (todo2 : List ByteArray) (seen2 : Array Nat) (c2 cn : Nat), q = todo2.length ∧ Hid (Rg Value.string es2 clock clock seen2 c2 todo2) ∧ Hid (LK H1 F1 a l todo2 cn) ∧ cn + todo2.length ≤ n + 1 ∧ Sep w wl (B2 ++ [.cells gl 31 [.string (P l), .bool fb, .int .i64 (cn : Int)], .obj r2 (.mapIter (some gm) clock seen2 c2)]))
            case atStart => exact ⟨todo1, #[], clock, 1, rfl, HR1, HLK0, by omega, HS4.out⟩
            case round =>
              clear HS4 HR1 HLK0 w4 htl1
              obtain ⟨todo2, seen2, c2, cn, rfl, HRG, HLK, hcn, hs⟩ := hrel
              have HS := Lib.hid hs
              clear hs
              rcases HS.out.rangeNext2 1 (B2.length + 1) (by omega) (atI HB21.out) at1 HM.out kstr HRG.out 0 with ⟨rfl, hrun⟩ | ⟨u, v, w7, seen3, todo3, hu, hua, hrun, hsz7, H7, R7, hen, hlen3, hme3⟩
              · have HCNT : Hid (Cnt H1 a cn) := Lib.hid (lk_end HI.out HHL.out HLK.out)
                have HBG2 : Hid (LeafBag H1 F1 todo' (out ++ [⟨P l, fb, cn⟩])) := Lib.hid (by rw [← HFB.out]; exact bag_add HI.out.clean HBG.out HX.out HL0.out HHL.out HCNT.out HME.out)
                have HOL2 : Hid ((out ++ [(⟨P l, fb, cn⟩ : Lf)]).length = m + 1) := Lib.hid (by rw [List.length_append, HOL.out]; rfl)
                have HH : Hid (Sep w wr (B ++ [.obj r1 (.mapIter (some gm) clock seen' clock), lR A12 m c12 out])) := Lib.hid (by
                  have h := HS.out.sub (List.sublist_append_left B2 _)
                  rw [HB2.out] at h
                  exact h)
                have d0 := HS.out.cell B2.length at0 (k := 0) rfl
                have d1 := HS.out.cell B2.length at0 (k := 1) rfl
                have d2 := HS.out.cell B2.length at0 (k := 2) rfl
                have hnew := Lib.hid (Rd.of_own (own_new wr 31 #[.string (P l), .bool fb, .int .i64 (cn : Int)] 3 1 rfl (by simp [maxLen]) (Nat.le_refl _)))
                clear HS HRG HLK
                go_wp2_with (at_builtin; refine wpList_append_sep (HH.out.alloc _) (B.length + 1) rfl (.tmp 73) (.tmp 75) 24 rfl 31 tj (.agg #[.string ⟨#[]⟩, .bool false, .int .i64 0]) 3 32 Tryd.underlying24 htj j0 j1 j2 rfl (by omega) _ m _ rfl at1 _ _ 1 1 _ rfl hnew.out (by simp [Value.oneCell']) (by simp only [maxLen]; omega) (by omega) ?_; intro A6 c6 w6 hc6 hs6 H6'; rw [set1] at H6'; have H6 := Lib.hid H6'; clear H6' hs6)
                go_roundg todo'.length
                case measure => omega
                case rel => exact ⟨todo', seen', clock, A6, c6, out ++ [⟨P l, fb, cn⟩], m + 1, rfl, rfl, HOL2, HR2, HBG2, by omega, by
                  have h := H6.out
                  unfold lR
                  rw [List.flatMap_append]
                  exact h⟩
              · obtain ⟨mm, b, hmc, hHm, rfl, rfl⟩ := tab_key HT.out hua
                rw [set1] at H7
                have HR7 := Lib.hid R7
                have hbl := HI.out.low _ _ hHm
                have hlen4 : todo3.length < todo2.length := Nat.lt_of_lt_of_le (Nat.lt_succ_self _) (Nat.le_of_eq hlen3)
                have HC3 : Hid (cn + 1 + todo3.length ≤ n + 1) := Lib.hid (by rw [Nat.add_assoc, Nat.add_comm 1, hlen3]; exact hcn)
                by_cases hF1 : F1 a = true
                · have vx : ¬ V a > 0 := by rw [HV.out.fold a HAL.out hF1]; omega
                  have HLK3 : Hid (LK H1 F1 a l todo3 cn) := Lib.hid (lk_skip HI.out.clean HLK.out hHm (.inl hF1) hme3)
                  have HS7 := Lib.hid H7
                  clear H7 R7 HS hsz7 hu hua hme3 hmc hHm hbl HRG HLK hF1
                  go_wp2
                  go_roundg todo3.length
                  case measure => exact hlen4
                  case rel => exact ⟨todo3, seen3, clock, cn, rfl, HR7, HLK3, Nat.le_trans (Nat.add_le_add_right (Nat.le_succ cn) _) HC3.out, HS7.out⟩
                · have hF1' : F1 a = false := by cases h : F1 a with | true => exact absurd h hF1 | false => rfl
                  have vx : V a > 0 := HV.out.pos a HAL.out hF1'
                  by_cases hml : mm = l
                  · have z2 : ((P mm).toList == (P l).toList) = true := by rw [hml]; simp
                    have HLK3 : Hid (LK H1 F1 a l todo3 cn) := Lib.hid (lk_skip HI.out.clean HLK.out hHm (.inr (.inl hml)) hme3)
                    have HS7 := Lib.hid H7
                    clear H7 R7 HS hsz7 hu hua hme3 hmc hHm hbl HRG HLK hF1 hF1' hml
                    go_wp2
                    go_roundg todo3.length
                    case measure => exact hlen4
                    case rel => exact ⟨todo3, seen3, clock, cn, rfl, HR7, HLK3, Nat.le_trans (Nat.add_le_add_right (Nat.le_succ cn) _) HC3.out, HS7.out⟩
                  · have z2 : ((P mm).toList == (P l).toList) = false := P_ne HLc.out hmc hml
                    by_cases hab : b = a
                    · have z3 : (V a == V b) = true := by rw [hab]; simp
                      have HLK3 : Hid (LK H1 F1 a l todo3 (cn + 1)) := Lib.hid (lk_add HI.out.clean HLK.out hF1' hml (by rw [hHm, hab]) hu hme3)
                      have f2 := H7.cell B2.length at0 (k := 2) rfl
                      have u2 := H7.froz B2.length at0 (k := 2)
                      have K7 := H7.set B2.length at0 (k := 2) (.int .i64 ((cn : Int) + 1))
                      rw [set0] at K7
                      have HS7 := Lib.hid K7
                      have hwm : wrap64 ((cn : Int) + 1) = (cn : Int) + 1 := by unfold wrap64; omega
                      clear H7 K7 R7 HS hsz7 hu hua hme3 hmc hHm hbl HRG HLK hF1 hF1' hml hab
                      go_wp2
                      go_roundg todo3.length
                      case measure => exact hlen4
                      case rel => exact ⟨todo3, seen3, clock, cn + 1, rfl, HR7, HLK3, HC3.out, HS7.out⟩
                    · have z3 : (V a == V b) = false := by
                        have h : V a ≠ V b := fun e => hab (HV.out.inj a b HAL.out hbl hF1' e).symm
                        simpa using h
                      have HLK3 : Hid (LK H1 F1 a l todo3 cn) := Lib.hid (lk_skip HI.out.clean HLK.out hHm (.inr (.inr hab)) hme3)
                      have HS7 := Lib.hid H7
                      clear H7 R7 HS hsz7 hu hua hme3 hmc hHm hbl HRG HLK hF1 hF1' hml hab
                      go_wp2
                      go_roundg todo3.length
                      case measure => exact hlen4
                      case rel => exact ⟨todo3, seen3, clock, cn, rfl, HR7, HLK3, Nat.le_trans (Nat.add_le_add_right (Nat.le_succ cn) _) HC3.out, HS7.out⟩
end Tr
end Go.Proofs.YtgidkaidljiddaaDoor
