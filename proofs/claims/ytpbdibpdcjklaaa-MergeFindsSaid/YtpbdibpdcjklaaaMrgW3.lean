/-
  Walks of merge.Find and of the reference's ZFind. Conditions: none.
-/
import Derived.Test.YtpbdibpdcjklaaaMrgW2
namespace Go.Proofs.Ytpbdibpdcjklaaa
open Go.RowKit Go.Shelf
set_option linter.unusedVariables false
namespace Mrg

/-- a table that came in: where its cells lie, and they -/
structure Tb where
  (A : Option Addr) (n c : Nat) (cs : List C)
def Tb.cells (t : Tb) : List Value := [.slice t.A t.n t.c]
theorem Tb.len : ∀ t : Tb, t.cells.length = 1 := fun _ => rfl
def Tb.ok (w : World) (t : Tb) : Prop := Rd w w.heap.size 3 t.A t.n (t.cs.flatMap C.cells) ∧ t.cs.length = t.n ∧ t.n ≤ 9223372036854775807
theorem ok_later {w w' : World} {t : Tb} (h : t.ok w) (hb : Below w.heap.size w w') : t.ok w' := ⟨(h.1.below hb).more hb.size, h.2.1, h.2.2⟩
def pairV (p : Int × Int) : Value := .tuple #[.int .i64 p.1, .int .i64 p.2]
theorem pairV_eq {p q : Int × Int} (h : p = q) : pairV p = pairV q := by rw [h]
theorem rt_iff_true {l : List C} (h : Rt l) : true = true ↔ Rt l := ⟨fun _ => h, fun _ => rfl⟩
theorem rt_iff_false {l : List C} (h : ¬ Rt l) : false = true ↔ Rt l := ⟨fun e => (by cases e), fun e => absurd e h⟩

set_option maxHeartbeats 3200000 in
theorem find_any (A : Option Addr) (n c : Nat) (L : List Tb) (key : Int) (w : World) (hr : Rd w w.heap.size 1 A n (L.flatMap Tb.cells)) (hl : L.length = n) (hn : n ≤ 9223372036854775807) (hq : ∀ t ∈ L, t.ok w) :
    Calls Try.prog 18 #[.slice A n c, .int .i64 key] w (Ret w (pairV (findE key (L.map Tb.cs)))) := by
  have HR := Lib.hid hr
  have HL := Lib.hid hl
  have HQ := Lib.hid hq
  clear hr hl hq
  go_enter Try.func18, Try.ntmps18
  go_wp2
  go_loopg [14] n (fun g i wr => ∃ k : Nat, k ≤ n ∧ g = n - k ∧ i = .int .i64 k ∧ Hid (∀ (m : Nat) (t : Tb), m < k → L[m]? = some t → Rt t.cs) ∧ Below w.heap.size w wr)
  case atStart => exact ⟨0, Nat.zero_le _, rfl, rfl, Lib.hid (fun m t h => by omega), Below.refl _ _⟩
  case round =>
    obtain ⟨k, hk, rfl, rfl, HRt, hB⟩ := hrel
    by_cases hlt : k < n
    · obtain ⟨b, off, rfl, hbb, hc⟩ := HR.out.at_ Tb.len (by omega)
      obtain ⟨t, ht⟩ : ∃ t, L[k]? = some t := ⟨_, List.getElem?_eq_getElem (by rw [HL.out]; exact hlt)⟩
      have q0 : wr.cell? ⟨b, off + k, none⟩ = some (.slice t.A t.n t.c) := (hB.cell hbb).trans (by have := hc k 0 t _ ht rfl; simpa using this)
      obtain ⟨r1, r2, r3⟩ := ok_later (HQ.out t (List.mem_of_getElem? ht)) hB
      by_cases hrt : Rt t.cs
      · have cR := Lib.hid (right_is t.A t.n t.c t.cs true wr r1 r2 r3 (rt_iff_true hrt))
        have HN : Hid (∀ (m : Nat) (t : Tb), m < k + 1 → L[m]? = some t → Rt t.cs) := Lib.hid (fun m u hm hu => by
          by_cases hmk : m = k
          · subst hmk; rw [ht] at hu; cases hu; exact hrt
          · exact HRt.out m u (by omega) hu)
        clear hc ht r1 r2 r3 hrt
        go_wp2_with fail
        refine cR.out.mono ?_; rintro e w1 ⟨rfl, hb1⟩
        go_wp2
        go_roundg (n - (k + 1))
        case measure => omega
        case rel => exact ⟨k + 1, by omega, rfl, by go_num, HN, hB.trans (hb1.mono hB.size)⟩
      · have cR := Lib.hid (right_is t.A t.n t.c t.cs false wr r1 r2 r3 (rt_iff_false hrt))
        have HE : Hid (findE key (L.map Tb.cs) = (0, 1)) := Lib.hid (findE_no (List.mem_map_of_mem (List.mem_of_getElem? ht)) hrt)
        clear hc ht r1 r2 r3 hrt
        go_wp2_with fail
        refine cR.out.mono ?_; rintro e w1 ⟨rfl, hb1⟩
        go_wp2
        go_ret2
        exact Ret.mk (pairV_eq (q := findE key (L.map Tb.cs)) (p := (0, 1)) HE.out.symm) (hB.trans (hb1.mono hB.size))
    · obtain rfl : k = n := by omega
      have HA : Hid (∀ t ∈ L, Rt t.cs) := Lib.hid (fun t ht => by
        obtain ⟨m, hm, rfl⟩ := List.getElem_of_mem ht
        exact HRt.out m _ (by have := HL.out; omega) (List.getElem?_eq_getElem hm))
      have HF : Hid (findE key (L.map Tb.cs) = look key (L.map Tb.cs)) := Lib.hid (findE_yes (fun l hl => by
        obtain ⟨t, ht, rfl⟩ := List.mem_map.1 hl
        exact HA.out t ht))
      clear hlt hk HRt
      obtain ⟨wo, rfl⟩ : ∃ wo : World, wo = wr := ⟨_, rfl⟩
      go_wp2
      go_loopg [24] k (fun g i wr => ∃ m : Nat, m ≤ k ∧ g = k - m ∧ i = .int .i64 m ∧ Hid (findE key (L.map Tb.cs) = look key ((L.drop m).map Tb.cs)) ∧ Below w.heap.size w wr)
      case atStart => exact ⟨0, Nat.zero_le _, rfl, rfl, Lib.hid (by rw [HF.out]; rfl), hB⟩
      case round =>
        obtain ⟨m, hm, rfl, rfl, HK, hB2⟩ := hrel
        by_cases hlt : m < k
        · obtain ⟨b, off, rfl, hbb, hc⟩ := HR.out.at_ Tb.len (by omega)
          obtain ⟨t, ht⟩ : ∃ t, L[m]? = some t := ⟨_, List.getElem?_eq_getElem (by rw [HL.out]; exact hlt)⟩
          have q0 : wr.cell? ⟨b, off + m, none⟩ = some (.slice t.A t.n t.c) := (hB2.cell hbb).trans (by have := hc m 0 t _ ht rfl; simpa using this)
          have hok := ok_later (HQ.out t (List.mem_of_getElem? ht)) hB2
          have hrt := HA.out t (List.mem_of_getElem? ht)
          have hn4 : t.n ≤ 4096 := by rw [← hok.2.1]; exact hrt.2
          have cS := Lib.hid (search_any t.A t.n t.c t.cs key wr hok.1 hok.2.1 hn4 hrt.1)
          have HD := Lib.hid (drop_at ht)
          have HOK := Lib.hid hok
          have HRT := Lib.hid hrt
          clear hc ht hok hrt
          go_wp2_with fail
          refine cS.out.mono ?_; rintro e w1 ⟨i, bb, rfl, hy, hno, hb1⟩
          have hB3 := hB2.trans (hb1.mono hB2.size)
          cases bb with
          | false =>
            have HN : Hid (findE key (L.map Tb.cs) = look key ((L.drop (m + 1)).map Tb.cs)) := Lib.hid (by rw [HK.out, HD.out, List.map_cons, look, find_none (hno rfl)])
            clear hy hno
            go_wp2
            go_roundg (k - (m + 1))
            case measure => omega
            case rel => exact ⟨m + 1, by omega, rfl, by go_num, HN, hB3⟩
          | true =>
            obtain ⟨x, hx, hxk⟩ := hy rfl
            have HE : Hid (findE key (L.map Tb.cs) = ansC x) := Lib.hid (by rw [HK.out, HD.out, List.map_cons, look, find_some HRT.out.1 hx hxk])
            have hil : i < t.n := by rw [← HOK.out.2.1]; exact (List.getElem?_eq_some_iff.1 hx).1
            obtain ⟨tA, tn, tc, tcs⟩ := t
            simp only at hx hil HOK cS
            obtain ⟨b', off', rfl, hbb', hc'⟩ := HOK.out.1.at_ C.len (by simp only; omega)
            obtain ⟨p0, p1, p2⟩ := C.facts hbb' hb1 hc' hx
            obtain ⟨xk, xd, xg⟩ := x
            simp only at p0 p1 p2
            have i0 : (0 : Int) ≤ (i : Int) := by omega
            have i1 : (i : Int) < (tn : Int) := by omega
            clear hy hno hx hxk hc'
            cases xg with
            | true =>
              go_wp2
              go_ret2
              exact Ret.mk (pairV_eq (p := (0, 3)) (by rw [HE.out]; rfl)) hB3
            | false =>
              go_wp2
              go_ret2
              exact Ret.mk (pairV_eq (p := (xd, 0)) (by rw [HE.out]; rfl)) hB3
        · have HE : Hid (findE key (L.map Tb.cs) = (0, 3)) := Lib.hid (by rw [HK.out, List.drop_eq_nil_of_le (by rw [HL.out]; omega)]; rfl)
          go_wp2
          go_ret2
          exact Ret.mk (pairV_eq (p := (0, 3)) HE.out.symm) hB2

set_option maxHeartbeats 3200000 in
theorem zfind_any (A : Option Addr) (n c : Nat) (L : List Tb) (key : Int) (w : World) (hr : Rd w w.heap.size 1 A n (L.flatMap Tb.cells)) (hl : L.length = n) (hn : n ≤ 9223372036854775807) (hq : ∀ t ∈ L, t.ok w) :
    Calls Try.prog 19 #[.slice A n c, .int .i64 key] w (Ret w (pairV (findE key (L.map Tb.cs)))) := by
  have HR := Lib.hid hr
  have HL := Lib.hid hl
  have HQ := Lib.hid hq
  clear hr hl hq
  go_enter Try.func19, Try.ntmps19
  go_wp2
  go_loopg [6, 7, 8] n (fun g vd ve vi wr => ∃ (d e z : Int), g ≤ n ∧ vd = .int .i64 d ∧ ve = .int .i64 e ∧ vi = .int .i64 z ∧ z = (g : Int) - 1 ∧ Hid ((d, e) = look key ((L.drop g).map Tb.cs)) ∧ Hid (∀ t ∈ L.drop g, Rt t.cs) ∧ Below w.heap.size w wr)
  case atStart => exact ⟨0, 3, _, Nat.le_refl _, rfl, rfl, rfl, rfl, Lib.hid (by rw [List.drop_eq_nil_of_le (by rw [HL.out]; exact Nat.le_refl _)]; rfl), Lib.hid (by rw [List.drop_eq_nil_of_le (by rw [HL.out]; exact Nat.le_refl _)]; simp), Below.refl _ _⟩
  case round =>
    obtain ⟨d, e, z, hg, rfl, rfl, rfl, hz, HD, HRt, hB⟩ := hrel
    rcases Nat.eq_zero_or_pos gk with h0 | hpos
    · subst h0
      obtain rfl : z = -1 := by omega
      have HE : Hid (findE key (L.map Tb.cs) = (d, e)) := Lib.hid (by
        rw [HD.out]
        exact findE_yes (fun l hl => by
          obtain ⟨t, ht, rfl⟩ := List.mem_map.1 hl
          exact HRt.out t (by simpa using ht)))
      clear hz hg
      go_wp2
      go_ret2
      exact Ret.mk (pairV_eq (p := (d, e)) HE.out.symm) hB
    · obtain ⟨r, hr⟩ : ∃ r, gk = r + 1 := ⟨gk - 1, by omega⟩
      subst hr
      obtain rfl : z = (r : Int) := by omega
      clear hz hpos
      obtain ⟨b, off, rfl, hbb, hc⟩ := HR.out.at_ Tb.len (by omega)
      obtain ⟨t, ht⟩ : ∃ t, L[r]? = some t := ⟨_, List.getElem?_eq_getElem (by rw [HL.out]; omega)⟩
      have q0 : wr.cell? ⟨b, off + r, none⟩ = some (.slice t.A t.n t.c) := (hB.cell hbb).trans (by have := hc r 0 t _ ht rfl; simpa using this)
      have hok := ok_later (HQ.out t (List.mem_of_getElem? ht)) hB
      obtain ⟨r1, r2, r3⟩ := hok
      have i0 : (0 : Int) ≤ (r : Int) := by omega
      have i1 : (r : Int) < (n : Int) := by omega
      have HDr := Lib.hid (drop_at ht)
      by_cases hrt : Rt t.cs
      · have cR := Lib.hid (zright_is t.A t.n t.c t.cs true wr r1 r2 r3 (rt_iff_true hrt))
        have HRn : Hid (∀ t ∈ L.drop r, Rt t.cs) := Lib.hid (fun u hu => by
          rw [HDr.out] at hu
          rcases List.mem_cons.1 hu with rfl | hu
          · exact hrt
          · exact HRt.out u hu)
        have HSc : Hid (look key ((L.drop r).map Tb.cs) = scan key t.cs (d, e)) := Lib.hid (by rw [HDr.out, List.map_cons, look_step hrt, ← HD.out])
        have HT : Hid (t.ok wr) := Lib.hid ⟨r1, r2, r3⟩
        clear hc ht r1 r2 hrt
        obtain ⟨tA, tn, tc, tcs⟩ := t
        simp only at q0 HSc HT cR r3
        go_wp2_with fail
        refine cR.out.mono ?_; rintro e' w1 ⟨rfl, hb1⟩
        have hB1 := hB.trans (hb1.mono hB.size)
        have q1 : w1.cell? ⟨b, off + r, none⟩ = some (.slice tA tn tc) := (hb1.cell (Nat.lt_of_lt_of_le hbb hB.size)).trans q0
        have HT1 := Lib.hid (ok_later HT.out hb1)
        go_wp2_with fail
        go_loopg [6, 7, 29] tn (fun g vd ve vi wi => ∃ (m : Nat) (d' e' : Int), m ≤ tn ∧ g = tn - m ∧ vi = .int .i64 m ∧ vd = .int .i64 d' ∧ ve = .int .i64 e' ∧ Hid (scan key tcs (d, e) = scan key (tcs.drop m) (d', e')) ∧ Below w1.heap.size w1 wi)
        case atStart => exact ⟨0, d, e, Nat.zero_le _, rfl, rfl, rfl, rfl, Lib.hid (by simp), Below.refl _ _⟩
        case round =>
          obtain ⟨m, d', e', hm, rfl, rfl, rfl, rfl, HS, hBi⟩ := hrel
          by_cases hlt : m < tn
          · obtain ⟨b', off', rfl, hbb', hc'⟩ := HT1.out.1.at_ C.len (by simp only; omega)
            obtain ⟨x, hx⟩ : ∃ x, tcs[m]? = some x := ⟨_, List.getElem?_eq_getElem (by have := HT1.out.2.1; simp only at this; rw [this]; exact hlt)⟩
            obtain ⟨p0, p1, p2⟩ := C.facts hbb' hBi hc' hx
            have HX := Lib.hid (drop_at hx)
            clear hc' hx
            obtain ⟨xk, xd, xg⟩ := x
            simp only at p0 p1 p2
            by_cases hk : xk = key
            · subst hk
              have ht : (xk == xk) = true := by simp
              have HN : Hid (scan xk tcs (d, e) = scan xk (tcs.drop (m + 1)) (ansC ⟨xk, xd, xg⟩)) := Lib.hid (by rw [HS.out, HX.out, scan, if_pos rfl])
              cases xg with
              | true =>
                go_wp2
                go_roundg (tn - (m + 1))
                case measure => omega
                case rel => exact ⟨m + 1, 0, 3, by omega, rfl, by go_num, rfl, rfl, HN, hBi.alloc hBi.size _⟩
              | false =>
                go_wp2
                go_roundg (tn - (m + 1))
                case measure => omega
                case rel => exact ⟨m + 1, xd, 0, by omega, rfl, by go_num, rfl, rfl, HN, hBi.alloc hBi.size _⟩
            · have ht : (xk == key) = false := by simpa using hk
              have HN : Hid (scan key tcs (d, e) = scan key (tcs.drop (m + 1)) (d', e')) := Lib.hid (by rw [HS.out, HX.out, scan, if_neg hk])
              clear hk
              go_wp2
              go_roundg (tn - (m + 1))
              case measure => omega
              case rel => exact ⟨m + 1, d', e', by omega, rfl, by go_num, rfl, rfl, HN, hBi.alloc hBi.size _⟩
          · have HN : Hid ((d', e') = look key ((L.drop r).map Tb.cs)) := Lib.hid (by rw [HSc.out, HS.out, List.drop_eq_nil_of_le (by have := HT1.out.2.1; simp only at this; rw [this]; omega), scan])
            go_wp2
            go_roundg r
            case measure => omega
            case rel => exact ⟨d', e', (r : Int) - 1, by omega, rfl, rfl, rfl, rfl, HN, HRn, hB1.trans (hBi.mono hB1.size)⟩
      · have cR := Lib.hid (zright_is t.A t.n t.c t.cs false wr r1 r2 r3 (rt_iff_false hrt))
        have HE : Hid (findE key (L.map Tb.cs) = (0, 1)) := Lib.hid (findE_no (List.mem_map_of_mem (List.mem_of_getElem? ht)) hrt)
        clear hc ht r1 r2 r3 hrt
        go_wp2_with fail
        refine cR.out.mono ?_; rintro e' w1 ⟨rfl, hb1⟩
        go_wp2
        go_ret2
        exact Ret.mk (pairV_eq (p := (0, 1)) HE.out.symm) (hB.trans (hb1.mono hB.size))
end Mrg
end Go.Proofs.Ytpbdibpdcjklaaa
