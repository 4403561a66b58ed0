/-
  Folders: walks of the reference's ORight and OAt, of the binary search and of dir.Find. Conditions: none beyond each theorem's own premises.
-/
import Derived.Test.YtelgalhkggnkbabDrR
import Derived.Shelf.Abstract
namespace Go.Proofs.Ytelgalhkggnkbab
open Go.RowKit Go.Shelf
set_option linter.unusedVariables false
namespace Dr

theorem leq_empty (a : ByteArray) : (Op.bytesLess a.toList (ByteArray.mk #[]).toList || a.toList == (ByteArray.mk #[]).toList) = (a.toList == []) := by
  have e : (ByteArray.mk #[]).toList = [] := by rw [ByteArray.toList_eq]
  rw [e]
  cases a.toList <;> simp [Op.bytesLess]

set_option maxRecDepth 100000 in
set_option maxHeartbeats 3200000 in
theorem oright_any (A : Option Addr) (n c : Nat) (l : List En) (b : Bool) (w : World) (hr : Rd w w.heap.size 2 A n (l.flatMap En.cells)) (hl : l.length = n) (hn : n ≤ 9223372036854775807) (hsz : ∀ e ∈ l, e.nm.size ≤ 9223372036854775807) (hb : b = true ↔ RightL l) :
    Calls Try.prog 7 #[.slice A n c] w (Ret w (.bool b)) := by
  have HR := Lib.hid hr
  have HL := Lib.hid hl
  have HBI := Lib.hid hb
  have HSZ := Lib.hid hsz
  clear hr hl hb hsz
  go_enter Try.func7, Try.ntmps7
  go_wp2
  go_loopg [3, 8] n (fun q v i wr => ∃ (k : Nat) (last : ByteArray), k ≤ n ∧ q = n - k ∧ v = .string last ∧ i = .int .i64 k ∧ Hid (RightL (l.take k)) ∧ Hid ((k = 0 ∧ last = ⟨#[]⟩) ∨ ∃ p, 0 < k ∧ l[k - 1]? = some p ∧ last = p.nm) ∧ Below w.heap.size w wr)
  case atStart => exact ⟨0, ⟨#[]⟩, Nat.zero_le _, rfl, rfl, rfl, Lib.hid ⟨by simp, by simp⟩, Lib.hid (.inl ⟨rfl, rfl⟩), Below.refl _ _⟩
  case round =>
    obtain ⟨k, last, hk, rfl, rfl, rfl, HG, HLA, hbb⟩ := hrel
    have HB := Lib.hid hbb
    clear hbb
    by_cases hlt : k < n
    · obtain ⟨ab, off, rfl, hb, hc⟩ := HR.out.at_ En.len (by omega)
      obtain ⟨e, he⟩ : ∃ e, l[k]? = some e := ⟨_, List.getElem?_eq_getElem (by rw [HL.out]; exact hlt)⟩
      obtain ⟨q0, q1⟩ := En.facts hb HB.out hc he
      have i0 : (0 : Int) ≤ (k : Int) := by omega
      have i1 : (k : Int) < (n : Int) := by omega
      have HNX := Lib.hid (right_next HG.out he)
      have hes := HSZ.out e (List.mem_of_getElem? he)
      have HE := Lib.hid he
      obtain ⟨em, ei⟩ := e
      simp only at q0 q1 hes
      have HBL := Lib.hid (HB.out.alloc HB.out.size (.cells #[.string em, .int .i64 ei] 30))
      have f0 := (Blk.new wr 30 [.string em, .int .i64 ei]).cell (k := 0) rfl
      clear hc he
      go_upto_region 5 with (fail)
      generalize wr.alloc (.cells #[.string em, .int .i64 ei] 30) = wo at f0 HBL ⊢
      generalize wr.heap.size = gx at f0 ⊢
      obtain ⟨gb, hgb⟩ : ∃ gb : Bool, gb = true ↔ GoodB em := ⟨decide (GoodB em), by simp⟩
      have HGB := Lib.hid hgb
      have cG := Lib.hid (ogood_any em gb wo hes hgb)
      obtain ⟨lb, hlb⟩ : ∃ lb, (Op.bytesLess em.toList last.toList || em.toList == last.toList) = lb := ⟨_, rfl⟩
      have HLB := Lib.hid hlb
      have HOK : Hid (GoodB em → (lb = false ↔ ∀ p, 0 < k → l[k - 1]? = some p → ltN p.nm em = true)) := Lib.hid (fun hg => by
        rcases HLA.out with ⟨h1, h2⟩ | ⟨p, h1, h2, h3⟩
        · rw [← HLB.out, h2, leq_empty]
          have hne : em.toList ≠ [] := by
            intro h
            have h5 := hg.1
            rw [ByteArray.toList_eq] at h
            have := Lib.size_eq em
            rw [h, List.length_nil] at this
            omega
          refine ⟨fun _ p h => by omega, fun _ => by simpa using hne⟩
        · rw [← HLB.out, h3, leq_iff]
          refine ⟨fun h p' _ hp' => by rw [h2] at hp'; cases hp'; exact h, fun h => h p h1 h2⟩)
      clear hgb q0 q1
      cases gb with
      | false =>
        obtain rfl : b = false := by
          cases b with
          | false => rfl
          | true =>
            have h1 := (HNX.out.1 ((HBI.out.1 rfl).take _)).1
            exact absurd (HGB.out.2 h1) (by decide)
        clear HNX HOK HLB
        go_wp2_with fail
        refine cG.out.mono ?_; rintro en w1 ⟨rfl, hb1⟩
        have HB1 := Lib.hid (HBL.out.trans (hb1.mono HBL.out.size))
        clear hb1
        go_wp2
        go_ret
        exact Ret.mk rfl HB1.out
      | true =>
        have hgood : GoodB em := by have := HGB.out; simpa using this
        have hok := HOK.out hgood
        cases lb with
        | true =>
          obtain rfl : b = false := by
            cases b with
            | false => rfl
            | true =>
              have h1 := (HNX.out.1 ((HBI.out.1 rfl).take _)).2
              exact absurd (hok.2 h1) (by decide)
          clear HNX HOK HLB hok hgood
          go_wp2_with fail
          refine cG.out.mono ?_; rintro en w1 ⟨rfl, hb1⟩
          have HB1 := Lib.hid (HBL.out.trans (hb1.mono HBL.out.size))
          have f1 := (hb1.cell (World.block_lt_of_cell? wo _ f0)).trans f0
          clear hb1 f0
          go_wp2
          go_ret
          exact Ret.mk rfl HB1.out
        | false =>
          have HN : Hid (RightL (l.take (k + 1))) := Lib.hid (HNX.out.2 ⟨hgood, hok.1 rfl⟩)
          clear HNX HOK HLB hok hgood
          go_wp2_with fail
          refine cG.out.mono ?_; rintro en w1 ⟨rfl, hb1⟩
          have HB1 := Lib.hid (HBL.out.trans (hb1.mono HBL.out.size))
          have f1 := (hb1.cell (World.block_lt_of_cell? wo _ f0)).trans f0
          clear hb1 f0
          go_wp2
          go_roundg (n - (k + 1))
          case measure => omega
          case rel => exact ⟨k + 1, em, by omega, rfl, rfl, by go_num, HN, Lib.hid (.inr ⟨⟨em, ei⟩, by omega, by rw [Nat.add_sub_cancel]; exact HE.out, rfl⟩), HB1.out⟩
    · obtain rfl : b = true := HBI.out.2 (by have h := HG.out; rwa [List.take_of_length_le (by rw [HL.out]; omega)] at h)
      go_wp2
      go_ret
      exact Ret.mk rfl HB.out

/-- a name's comparison -/
def cmpN (a b : ByteArray) : Int := Lib.compareBytes a.data.toList b.data.toList
theorem cmpN_lt (a b : ByteArray) : cmpN a b < 0 ↔ ltN a b = true := by
  unfold cmpN ltN
  rw [cmp_lt, ByteArray.toList_eq, ByteArray.toList_eq]
theorem cmpN_eq (a b : ByteArray) : cmpN a b = 0 ↔ a = b := by
  unfold cmpN
  rw [cmp_eq0, ← ByteArray.toList_eq, ← ByteArray.toList_eq]
  exact ⟨toList_inj, fun h => by rw [h]⟩
set_option maxRecDepth 100000 in
theorem atcmp_any (em nm : ByteArray) (ei : Int) (w : World) : Calls Try.prog 30 #[.agg #[.string em, .int .i64 ei], .string nm] w (Ret w (.int .i64 (cmpN em nm))) := by
  obtain ⟨cv, hcv⟩ : ∃ cv, cv = cmpN em nm := ⟨_, rfl⟩
  have cC : Hid (∀ W, Calls Try.prog 31 #[.string em, .string nm] W (fun e w' => e = .returned (.int .i64 cv) ∧ w' = W)) := Lib.hid (fun W => by rw [hcv]; exact Any.strings_Compare { Try.strCmp with } em nm W)
  rw [← hcv]
  clear hcv
  have hbl := Lib.hid ((Below.refl w.heap.size w).alloc (Nat.le_refl _) (.cells #[.string em, .int .i64 ei] 30))
  have f0 := (Blk.new w 30 [.string em, .int .i64 ei]).cell (k := 0) rfl
  go_enter Try.func30, Try.ntmps30
  go_upto_region 1 with (fail)
  generalize w.alloc (.cells #[.string em, .int .i64 ei] 30) = w1 at f0 hbl ⊢
  generalize w.heap.size = gx at f0 ⊢
  go_wp2_with fail
  refine (cC.out _).mono ?_; rintro en w2 ⟨rfl, rfl⟩
  go_wp2
  go_ret
  exact Ret.mk rfl hbl.out
abbrev cmpF : Value := .func (.func 30) #[] #[]
/-- what the search finds -/
def AtW (l : List En) (nm : ByteArray) (i : Nat) (b : Bool) : Prop := RightL l → (∀ m x, m < i → l[m]? = some x → ltN x.nm nm = true) ∧ (∀ m x, i ≤ m → l[m]? = some x → ltN x.nm nm = false) ∧ (b = true ↔ ∃ x, l[i]? = some x ∧ x.nm = nm)
theorem right_lt {l : List En} (h : RightL l) {i j : Nat} {x y : En} (hij : i < j) (hx : l[i]? = some x) (hy : l[j]? = some y) : ltN x.nm y.nm = true := by
  obtain ⟨a1, rfl⟩ := List.getElem?_eq_some_iff.1 hx
  obtain ⟨a2, rfl⟩ := List.getElem?_eq_some_iff.1 hy
  exact List.pairwise_iff_getElem.1 h.2 i j a1 a2 hij

set_option maxRecDepth 100000 in
set_option maxHeartbeats 3200000 in
theorem search_any (A : Option Addr) (n c : Nat) (l : List En) (nm : ByteArray) (w : World) (hr : Rd w w.heap.size 2 A n (l.flatMap En.cells)) (hl : l.length = n) (hn : n ≤ 4611686018427387903) :
    Calls Try.prog 29 #[.slice A n c, .string nm, cmpF] w (fun e w' => ∃ (i : Nat) (b : Bool), e = .returned (.tuple #[.int .i64 (i : Int), .bool b]) ∧ i ≤ n ∧ (b = true → i < n) ∧ AtW l nm i b ∧ Below w.heap.size w w') := by
  have HR := Lib.hid hr
  have HL := Lib.hid hl
  have eg : ∀ args w, (callFunc 30 args).run Try.prog w = .ok (.enter 30 args) w := enters_of Try.func30 (by kernel_rfl) rfl
  clear hr hl
  go_enter Try.func29, Try.ntmps29
  go_wp2
  go_loopg [9, 10] n (fun g vi vj wr => ∃ (i j : Nat), i ≤ j ∧ j ≤ n ∧ g = j - i ∧ vi = .int .i64 i ∧ vj = .int .i64 j ∧ Hid (RightL l → ∀ m x, m < i → l[m]? = some x → ltN x.nm nm = true) ∧ Hid (RightL l → ∀ m x, j ≤ m → l[m]? = some x → ltN x.nm nm = false) ∧ Below w.heap.size w wr)
  case atStart => exact ⟨0, n, Nat.zero_le _, Nat.le_refl _, by omega, rfl, rfl, Lib.hid (fun _ m x h => by omega), Lib.hid (fun _ m x h hx => by have := (List.getElem?_eq_some_iff.1 hx).1; rw [HL.out] at this; omega), Below.refl _ _⟩
  case round =>
    obtain ⟨i, j, hij, hjn, rfl, rfl, rfl, HLo, HHi, hbb⟩ := hrel
    have HB := Lib.hid hbb
    clear hbb
    by_cases hlt : i < j
    · obtain ⟨ab, off, rfl, hb, hc⟩ := HR.out.at_ En.len (by omega)
      obtain ⟨h, hh⟩ : ∃ h, h = (i + j) / 2 := ⟨_, rfl⟩
      obtain ⟨sj, hsj⟩ : ∃ sj, sj = i + j := ⟨_, rfl⟩
      have hh1 : i ≤ h := by omega
      have hh2 : h < j := by omega
      have e1 : (i : Int) + (j : Int) = (sj : Int) := by omega
      have e2 : (sj : Int) / 2 = (h : Int) := by omega
      have e3 : sj ≤ 9223372036854775806 := by omega
      obtain ⟨x, hx⟩ : ∃ x, l[h]? = some x := ⟨_, List.getElem?_eq_getElem (by rw [HL.out]; omega)⟩
      obtain ⟨q0, q1⟩ := En.facts hb HB.out hc hx
      have i0 : (0 : Int) ≤ (h : Int) := by omega
      have i1 : (h : Int) < (n : Int) := by omega
      have HX := Lib.hid hx
      have hle2 : h ≤ n := by omega
      have hle3 : h + 1 ≤ j := by omega
      have hm1 : j - (h + 1) < j - i := by omega
      have hm2 : h - i < j - i := by omega
      obtain ⟨xm, xi⟩ := x
      simp only at q0 q1
      have hcl := cmpN_lt xm nm
      obtain ⟨cv, hcv⟩ : ∃ cv, cv = cmpN xm nm := ⟨_, rfl⟩
      have cK := Lib.hid (atcmp_any xm nm xi wr)
      rw [← hcv] at hcl cK
      have HCL := Lib.hid hcl
      clear hc hx hh hsj hcl hcv
      by_cases hk : cv < 0
      · have HN : Hid (RightL l → ∀ m y, m < h + 1 → l[m]? = some y → ltN y.nm nm = true) := Lib.hid (fun hri m y hm hy => by
          have h1 := HCL.out.1 hk
          by_cases hmh : m = h
          · subst hmh; rw [HX.out] at hy; cases hy; exact h1
          · exact ltN_trans (right_lt hri (show m < h by omega) hy HX.out) h1)
        go_wp2_with (go_at_fn 30; refine cK.out.mono ?_; rintro e w1 ⟨rfl, hb1⟩)
        go_roundg (j - (h + 1))
        case measure => exact hm1
        case rel => exact ⟨h + 1, j, hle3, hjn, rfl, by go_num, rfl, HN, HHi, HB.out.trans (hb1.mono HB.out.size)⟩
      · have HN : Hid (RightL l → ∀ m y, h ≤ m → l[m]? = some y → ltN y.nm nm = false) := Lib.hid (fun hri m y hm hy => by
          have h1 : ltN xm nm = false := by
            cases h2 : ltN xm nm with
            | false => rfl
            | true => exact absurd (HCL.out.2 h2) hk
          by_cases hmh : m = h
          · subst hmh; rw [HX.out] at hy; cases hy; exact h1
          · have h3 := right_lt hri (show h < m by omega) HX.out hy
            cases h4 : ltN y.nm nm with
            | false => rfl
            | true => have := ltN_trans h3 h4; rw [h1] at this; cases this)
        go_wp2_with (go_at_fn 30; refine cK.out.mono ?_; rintro e w1 ⟨rfl, hb1⟩)
        go_roundg (h - i)
        case measure => exact hm2
        case rel => exact ⟨i, h, hh1, hle2, rfl, rfl, rfl, HLo, HN, HB.out.trans (hb1.mono HB.out.size)⟩
    · obtain rfl : i = j := by omega
      by_cases hin : i < n
      · obtain ⟨ab, off, rfl, hb, hc⟩ := HR.out.at_ En.len (by omega)
        obtain ⟨x, hx⟩ : ∃ x, l[i]? = some x := ⟨_, List.getElem?_eq_getElem (by rw [HL.out]; omega)⟩
        obtain ⟨q0, q1⟩ := En.facts hb HB.out hc hx
        have i0 : (0 : Int) ≤ (i : Int) := by omega
        have i1 : (i : Int) < (n : Int) := by omega
        have HX := Lib.hid hx
        obtain ⟨xm, xi⟩ := x
        simp only at q0 q1
        have hcl := cmpN_eq xm nm
        obtain ⟨cv, hcv⟩ : ∃ cv, cv = cmpN xm nm := ⟨_, rfl⟩
        have cK := Lib.hid (atcmp_any xm nm xi wr)
        rw [← hcv] at hcl cK
        obtain ⟨bv, hbv⟩ : ∃ bv, (cv == 0) = bv := ⟨_, rfl⟩
        have HAT : Hid (AtW l nm i bv) := Lib.hid (fun hri => ⟨HLo.out hri, HHi.out hri, by
          rw [← hbv, beq_iff_eq, hcl]
          exact ⟨fun h => ⟨_, HX.out, h⟩, fun ⟨y, hy, h⟩ => by rw [HX.out] at hy; cases hy; exact h⟩⟩)
        clear hc hx hcl hcv
        go_wp2_with (go_at_fn 30; refine cK.out.mono ?_; rintro e w1 ⟨rfl, hb1⟩)
        go_ret2
        exact ⟨i, bv, rfl, hjn, fun _ => hin, HAT.out, HB.out.trans (hb1.mono HB.out.size)⟩
      · have HAT : Hid (AtW l nm i false) := Lib.hid (fun hri => ⟨HLo.out hri, HHi.out hri, by simp only [Bool.false_eq_true, false_iff]; rintro ⟨x, hx, _⟩; have := (List.getElem?_eq_some_iff.1 hx).1; rw [HL.out] at this; omega⟩)
        go_wp2
        go_ret2
        exact ⟨i, false, rfl, hjn, (fun h => by cases h), HAT.out, HB.out⟩

set_option maxRecDepth 100000 in
theorem at_any (A : Option Addr) (n c : Nat) (l : List En) (nm : ByteArray) (w : World) (hr : Rd w w.heap.size 2 A n (l.flatMap En.cells)) (hl : l.length = n) (hn : n ≤ 4611686018427387903) :
    Calls Try.prog 18 #[.slice A n c, .string nm] w (fun e w' => ∃ (i : Nat) (b : Bool), e = .returned (.tuple #[.int .i64 (i : Int), .bool b]) ∧ i ≤ n ∧ (b = true → i < n) ∧ AtW l nm i b ∧ Below w.heap.size w w') := by
  have cS := Lib.hid (search_any A n c l nm w hr hl hn)
  clear hr hl
  go_enter Try.func18, Try.ntmps18
  go_wp2_with fail
  refine cS.out.mono ?_; rintro en w1 ⟨i, b, rfl, h1, h2, h3, hb1⟩
  have H3 := Lib.hid h3
  have HB := Lib.hid hb1
  have H2 := Lib.hid h2
  clear h3 hb1 h2 cS
  go_wp2
  go_ret2
  exact ⟨i, b, rfl, h1, H2.out, H3.out, HB.out⟩

/-- what Find answers -/
inductive FindW (l : List En) (nm : ByteArray) : Int → Int → Prop
  | form (h : ¬ RightL l) : FindW l nm 0 1
  | none (h : RightL l) (h1 : ∀ x ∈ l, x.nm ≠ nm) : FindW l nm 0 3
  | some (h : RightL l) (i : Nat) (x : En) (h1 : l[i]? = some x) (h2 : x.nm = nm) : FindW l nm x.id 0
theorem AtW.none {l : List En} {nm : ByteArray} {i : Nat} (hr : RightL l) (h : AtW l nm i false) : ∀ x ∈ l, x.nm ≠ nm := by
  intro x hx e
  obtain ⟨h1, h2, h3⟩ := h hr
  obtain ⟨j, hj⟩ := List.mem_iff_getElem?.1 hx
  by_cases hij : j < i
  · have := ltN_ne (h1 j x hij hj)
    exact this e
  · by_cases e2 : j = i
    · subst e2
      exact absurd (h3.2 ⟨x, hj, e⟩) (by decide)
    · have hlt : i < l.length := by have := (List.getElem?_eq_some_iff.1 hj).1; omega
      have h4 := right_lt hr (show i < j by omega) (List.getElem?_eq_getElem hlt) hj
      have h5 := h2 i _ (Nat.le_refl _) (List.getElem?_eq_getElem hlt)
      rw [e] at h4
      rw [h5] at h4
      cases h4
set_option maxRecDepth 100000 in
set_option maxHeartbeats 1600000 in
theorem find_any (A : Option Addr) (n c : Nat) (l : List En) (nm : ByteArray) (w : World) (hr : Rd w w.heap.size 2 A n (l.flatMap En.cells)) (hl : l.length = n) (hn : n ≤ 4611686018427387903) :
    Calls Try.prog 16 #[.slice A n c, .string nm] w (fun e w' => ∃ (k er : Int), e = .returned (.tuple #[.int .i64 k, .int .i64 er]) ∧ FindW l nm k er ∧ Below w.heap.size w w') := by
  obtain ⟨rb, hrb⟩ : ∃ rb : Bool, rb = true ↔ RightL l := ⟨decide (RightL l), by simp⟩
  have cR := Lib.hid (dright_any A n c l rb w hr hl (by omega) hrb)
  have cS := Lib.hid (fun W (hW : Below w.heap.size w W) => at_any A n c l nm W (hr.later hW) hl hn)
  have HRB := Lib.hid hrb
  have HR := Lib.hid hr
  have HL := Lib.hid hl
  clear hr hl hrb
  go_enter Try.func16, Try.ntmps16
  go_wp2_with fail
  refine cR.out.mono ?_; rintro en w1 ⟨rfl, hb1⟩
  have HB1 := Lib.hid hb1
  clear hb1 cR
  cases rb with
  | false =>
    go_wp2
    go_ret2
    exact ⟨0, 1, rfl, .form (fun h => absurd (HRB.out.2 h) (by decide)), HB1.out⟩
  | true =>
    have hri : RightL l := by have := HRB.out; simpa using this
    have HRI := Lib.hid hri
    clear hri HRB
    go_wp2_with fail
    refine (cS.out w1 HB1.out).mono ?_; rintro en w2 ⟨i, b, rfl, hi, hin, hat, hb2⟩
    have HB2 := Lib.hid (HB1.out.trans (hb2.mono HB1.out.size))
    have HAT := Lib.hid hat
    clear hb2 hat cS
    cases b with
    | false =>
      go_wp2
      go_ret2
      exact ⟨0, 3, rfl, .none HRI.out (HAT.out.none HRI.out), HB2.out⟩
    | true =>
      have hin2 : i < n := by simpa using hin
      obtain ⟨ab, off, rfl, hb, hc⟩ := HR.out.at_ En.len (by omega)
      obtain ⟨x, hx, hxn⟩ := ((HAT.out HRI.out).2.2).1 (by simp)
      obtain ⟨q0, q1⟩ := En.facts hb HB2.out hc hx
      have HX := Lib.hid (And.intro hx hxn)
      have i0 : (0 : Int) ≤ (i : Int) := by omega
      have i1 : (i : Int) < (n : Int) := by omega
      clear hc hx hxn q0 hin HAT
      go_wp2
      go_ret2
      exact ⟨x.id, 0, rfl, .some HRI.out i x HX.out.1 HX.out.2, HB2.out⟩

/-- the first entry of a name -/
def AtF (l : List En) (nm : ByteArray) (k : Int) : Prop := (k = -1 ∧ ∀ x ∈ l, x.nm ≠ nm) ∨ ∃ (i : Nat) (x : En), k = i ∧ l[i]? = some x ∧ x.nm = nm
set_option maxRecDepth 100000 in
set_option maxHeartbeats 1600000 in
theorem oat1_any (em nm : ByteArray) (ei : Int) (gn : Nat) (b : Bool) (w : World) (hc : w.cell? ⟨gn, 0, none⟩ = some (.string nm)) (hb : (em.toList == nm.toList) = b) : Calls Try.prog 22 #[.agg #[.string em, .int .i64 ei], .pointer (some ⟨gn, 0, none⟩)] w (Ret w (.bool b)) := by
  have hbl := Lib.hid ((Below.refl w.heap.size w).alloc (Nat.le_refl _) (.cells #[.string em, .int .i64 ei] 30))
  have f0 := (Blk.new w 30 [.string em, .int .i64 ei]).cell (k := 0) rfl
  have hc2 := (((Below.refl w.heap.size w).alloc (Nat.le_refl _) (.cells #[.string em, .int .i64 ei] 30)).cell (World.block_lt_of_cell? w _ hc)).trans hc
  go_enter Try.func22, Try.ntmps22
  go_upto_region 1 with (fail)
  generalize w.alloc (.cells #[.string em, .int .i64 ei] 30) = w1 at f0 hbl hc2 ⊢
  generalize w.heap.size = gx at f0 ⊢
  clear hc
  go_wp2
  go_ret
  exact Ret.mk rfl hbl.out
set_option maxRecDepth 100000 in
set_option maxHeartbeats 1600000 in
theorem oindex_any (A : Option Addr) (n c gn : Nat) (l : List En) (nm : ByteArray) (w : World) (hr : Rd w w.heap.size 2 A n (l.flatMap En.cells)) (hl : l.length = n) (hn : n ≤ 9223372036854775807) (hc : w.cell? ⟨gn, 0, none⟩ = some (.string nm)) :
    Calls Try.prog 21 #[.slice A n c, .func (.func 22) #[] #[.pointer (some ⟨gn, 0, none⟩)]] w (fun e w' => ∃ k : Int, e = .returned (.int .i64 k) ∧ AtF l nm k ∧ Below w.heap.size w w') := by
  have HR := Lib.hid hr
  have HL := Lib.hid hl
  have HC := Lib.hid hc
  have eg : ∀ args w, (callFunc 22 args).run Try.prog w = .ok (.enter 22 args) w := enters_of Try.func22 (by kernel_rfl) rfl
  clear hr hl hc
  go_enter Try.func21, Try.ntmps21
  go_wp2
  go_loopg [8] n (fun q i wr => ∃ (k : Nat), k ≤ n ∧ q = n - k ∧ i = .int .i64 k ∧ Hid (∀ x ∈ l.take k, x.nm ≠ nm) ∧ Below w.heap.size w wr)
  case atStart => exact ⟨0, Nat.zero_le _, rfl, rfl, Lib.hid (by simp), Below.refl _ _⟩
  case round =>
    obtain ⟨k, hk, rfl, rfl, HG, hb⟩ := hrel
    have HB := Lib.hid hb
    clear hb
    by_cases hlt : k < n
    · obtain ⟨ab, off, rfl, hb, hc⟩ := HR.out.at_ En.len (by omega)
      obtain ⟨x, hx⟩ : ∃ x, l[k]? = some x := ⟨_, List.getElem?_eq_getElem (by rw [HL.out]; exact hlt)⟩
      obtain ⟨q0, q1⟩ := En.facts hb HB.out hc hx
      have i0 : (0 : Int) ≤ (k : Int) := by omega
      have i1 : (k : Int) < (n : Int) := by omega
      have HO := Lib.hid hx
      obtain ⟨xm, xi⟩ := x
      simp only at q0 q1
      obtain ⟨b, hbb⟩ : ∃ b, (xm.toList == nm.toList) = b := ⟨_, rfl⟩
      have cB := Lib.hid (oat1_any xm nm xi gn b wr ((HB.out.cell (World.block_lt_of_cell? w _ HC.out)).trans HC.out) hbb)
      have HBB := Lib.hid hbb
      clear hc hx hbb
      cases b with
      | false =>
        go_wp2_with fail
        refine cB.out.mono ?_; rintro en w1 ⟨rfl, hb1⟩
        have B1 := Lib.hid (HB.out.trans (hb1.mono HB.out.size))
        go_wp2
        go_roundg (n - (k + 1))
        case measure => omega
        case rel =>
          refine ⟨k + 1, by omega, rfl, by go_num, Lib.hid (fun x hx => ?_), B1.out⟩
          rw [List.take_add_one, HO.out] at hx
          rcases List.mem_append.1 hx with h | h
          · exact HG.out x h
          · simp only [Option.toList, List.mem_singleton] at h
            rw [h]
            intro e
            have h2 := HBB.out
            simp only at e
            rw [e] at h2
            simp at h2
      | true =>
        go_wp2_with fail
        refine cB.out.mono ?_; rintro en w1 ⟨rfl, hb1⟩
        have B1 := Lib.hid (HB.out.trans (hb1.mono HB.out.size))
        go_wp2
        go_ret
        exact ⟨(k : Int), rfl, .inr ⟨k, _, rfl, HO.out, toList_inj (by have h := HBB.out; rwa [beq_iff_eq] at h)⟩, B1.out⟩
    · go_wp2
      go_ret
      refine ⟨-1, rfl, .inl ⟨rfl, fun x hx => HG.out x ?_⟩, HB.out⟩
      rw [List.take_of_length_le (by rw [HL.out]; omega)]
      exact hx
set_option maxRecDepth 100000 in
set_option maxHeartbeats 1600000 in
theorem oat_any (A : Option Addr) (n c : Nat) (l : List En) (nm : ByteArray) (w : World) (hr : Rd w w.heap.size 2 A n (l.flatMap En.cells)) (hl : l.length = n) (hn : n ≤ 9223372036854775807) :
    Calls Try.prog 6 #[.slice A n c, .string nm] w (fun e w' => ∃ k : Int, e = .returned (.int .i64 k) ∧ AtF l nm k ∧ Below w.heap.size w w') := by
  have hmf : ∀ (fn : Fn) (first cap : Array Value) (w : World), (Instr.makeFunc fn first cap).run Try.prog w = .ok (.func fn first cap) w := fun _ _ _ _ => rfl
  have hbl := Lib.hid ((Below.refl w.heap.size w).alloc (Nat.le_refl _) (.cells #[.string nm] 9))
  have f0 := (Blk.new w 9 [.string nm]).cell (k := 0) rfl
  have cI := Lib.hid (oindex_any A n c w.heap.size l nm (w.alloc (.cells #[.string nm] 9)) (hr.later hbl.out) hl hn f0)
  clear hr hl
  go_enter Try.func6, Try.ntmps6
  go_upto_region 1 with (fail)
  generalize w.alloc (.cells #[.string nm] 9) = w1 at f0 hbl cI ⊢
  go_wp2_with fail
  refine cI.out.mono ?_; rintro en w2 ⟨k, rfl, hk, hb2⟩
  have HK := Lib.hid hk
  have HB := Lib.hid (hbl.out.trans (hb2.mono hbl.out.size))
  clear hk hb2 cI
  go_wp2
  go_ret
  exact ⟨k, rfl, HK.out, HB.out⟩
end Dr
end Go.Proofs.Ytelgalhkggnkbab
