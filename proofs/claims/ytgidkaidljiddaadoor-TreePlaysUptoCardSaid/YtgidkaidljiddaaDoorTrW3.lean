/-
  Walks of package tree: below. Conditions: none beyond each theorem's own premises.
-/
import Derived.Test.YtgidkaidljiddaaDoorTrW2
namespace Go.Proofs.YtgidkaidljiddaaDoor
open Go.RowKit Go.Shelf
set_option linter.unusedVariables false
namespace Tr
open Dr Pt

/-- the paths below l that have come -/
def Coll (H : Tree) (l : List By) (todo : List ByteArray) (ts : List (List By)) : Prop := ts.Nodup ∧ ∀ t, t ∈ ts ↔ (t ≠ [] ∧ (H (l ++ t)).isSome = true ∧ P (l ++ t) ∉ todo)
theorem coll_start {α : Type} {H : Tree} {v : Nat → α} {h : ByteArray → Option α} (T : Tab H v h) (hcl : ∀ m a, H m = some a → Cl m) {l : List By} {todo : List ByteArray} (hm : ∀ x, x ∈ todo ↔ (h x).isSome = true) : Coll H l todo [] := by
  refine ⟨List.nodup_nil, fun t => ⟨fun e => (List.not_mem_nil e).elim, fun hh => ?_⟩⟩
  obtain ⟨_, h2, h3⟩ := hh
  obtain ⟨a, ha⟩ := Option.isSome_iff_exists.1 h2
  exact absurd ((hm _).2 (by rw [tab_look T (hcl _ _ ha), ha]; rfl)) h3
theorem coll_skip {H : Tree} (hcl : ∀ m a, H m = some a → Cl m) {l m : List By} {todo todo' : List ByteArray} {ts : List (List By)} (C : Coll H l todo ts) (hm : Cl m) (hno : ¬ ∃ t, t ≠ [] ∧ m = l ++ t)
    (hme : ∀ y, y ∈ todo' ↔ (y ≠ P m ∧ y ∈ todo)) : Coll H l todo' ts := by
  refine ⟨C.1, fun t => (C.2 t).trans ⟨fun ⟨h1, h2, h3⟩ => ⟨h1, h2, fun e => h3 ((hme _).1 e).2⟩, fun ⟨h1, h2, h3⟩ => ⟨h1, h2, fun e => h3 ((hme _).2 ⟨fun e2 => ?_, e⟩)⟩⟩⟩
  obtain ⟨a, ha⟩ := Option.isSome_iff_exists.1 h2
  exact hno ⟨t, h1, (P_inj (hcl _ _ ha) hm e2).symm⟩
theorem coll_add {H : Tree} (hcl : ∀ m a, H m = some a → Cl m) {l t0 : List By} {a : Nat} {todo todo' : List ByteArray} {ts : List (List By)} (C : Coll H l todo ts) (ht : t0 ≠ []) (ha : H (l ++ t0) = some a) (hin : P (l ++ t0) ∈ todo)
    (hme : ∀ y, y ∈ todo' ↔ (y ≠ P (l ++ t0) ∧ y ∈ todo)) : Coll H l todo' (ts ++ [t0]) := by
  have hnot : t0 ∉ ts := fun e => ((C.2 t0).1 e).2.2 hin
  refine ⟨List.nodup_append.2 ⟨C.1, by simp, fun x hx y hy => by rw [List.mem_singleton.1 hy]; intro e; exact hnot (e ▸ hx)⟩, fun t => ?_⟩
  rw [List.mem_append, List.mem_singleton, C.2 t]
  constructor
  · rintro (⟨h1, h2, h3⟩ | rfl)
    · exact ⟨h1, h2, fun e => h3 ((hme _).1 e).2⟩
    · exact ⟨ht, by rw [ha]; rfl, fun e => ((hme _).1 e).1 rfl⟩
  · rintro ⟨h1, h2, h3⟩
    by_cases e : t = t0
    · exact .inr e
    · refine .inl ⟨h1, h2, fun e2 => h3 ((hme _).2 ⟨fun e3 => e ?_, e2⟩)⟩
      obtain ⟨b, hb⟩ := Option.isSome_iff_exists.1 h2
      exact List.append_cancel_left (P_inj (hcl _ _ hb) (hcl _ _ ha) e3)

abbrev sk (l : List By) (t : List By) : List Value := [.string (P (l ++ t))]
theorem sk_len (l : List By) : ∀ t, (sk l t).length = 1 := fun _ => rfl
abbrev sR (l : List By) (A : Option Addr) (m c : Nat) (ts : List (List By)) : It := .row 9 1 (.slice A m c) m (ts.flatMap (sk l))
theorem subX {B : List It} {X Y : It} : (B ++ [Y]).Sublist (B ++ [X, Y]) := List.Sublist.append_left (List.Sublist.cons _ (List.Sublist.refl _)) _
theorem P_ne {l m : List By} (hl : Cl l) (hm : Cl m) (h : m ≠ l) : ((P m).toList == (P l).toList) = false := bs_ne fun e => h (P_inj hm hl (congrArg kb e))

set_option maxRecDepth 100000 in
set_option maxHeartbeats 3200000 in
theorem below_any (w0 w : World) (L : List It) (i g n : Nat) (h : ByteArray → Option Value) (G : Nat → Nat) (H : Tree) (l : List By)
    (hS : Sep w0 w L) (hi : L[i]? = some (tm g n h)) (T : Tab H (nv G) h) (hcl : ∀ m a, H m = some a → Cl m) (hl : Cl l) (hs : (ppath l).length ≤ 1048577) (hn : n ≤ 5864062014805) :
    Calls Tryd.prog 21 #[.map (some g), .string (P l)] w (fun e w' => ∃ (A : Option Addr) (m c : Nat) (ts : List (List By)), e = .returned (.slice A m c) ∧ ts.length = m ∧ m ≤ n ∧ Coll H l [] ts ∧ Sep w0 w' (L ++ [sR l A m c ts])) := by
  obtain ⟨ti, hti, t0, t1, t2⟩ := info_parts string_info
  have hil := (List.getElem?_eq_some_iff.1 hi).1
  obtain ⟨es, clock, M, H1⟩ := hS.mapOpen i hi
  obtain ⟨B, hB⟩ : ∃ B, B = L.set i (.obj g (.map es clock)) := ⟨_, rfl⟩
  rw [← hB] at H1
  have hBi : B[i]? = some (.obj g (.map es clock)) := by rw [hB]; exact getSet_self' hi
  have hBl : i < B.length := by rw [hB, List.length_set]; exact hil
  obtain ⟨hrun, H2, todo0, R0, htl, hmem⟩ := H1.rangeStart i hBi M kstr Tryd.underlying37
  have HBK : Hid (∀ (w' : World) (X Y : It), Sep w0 w' (B ++ [X, Y]) → Sep w0 w' (L ++ [Y])) := Lib.hid (fun w' X Y K => by
    have K2 := (K.sub subX).mapShut i (atI hBi) M
    rw [List.set_append_left _ _ hBl, hB, List.set_set, set_self' hi] at K2
    exact K2)
  have HC0 : Hid (Coll H l todo0 []) := Lib.hid (coll_start T hcl hmem)
  have HS0 : Hid (Sep w0 (w.alloc (.mapIter (some g) clock #[] clock)) (B ++ [.obj w.heap.size (.mapIter (some g) clock #[] clock), sR l none 0 0 []])) := Lib.hid (by
    have h := H2.nilRow 9 1 none
    rw [List.append_assoc] at h
    exact h)
  have HM := Lib.hid M
  have HR0 := Lib.hid R0
  have HBI := Lib.hid hBi
  have HT := Lib.hid T
  have HCL := Lib.hid hcl
  have HL := Lib.hid hl
  have c2 := Lib.hid (fun W => trm_any (ppath l) (by omega) W)
  have hz : (kb (Lib.trimSuffix (ppath l) [47])).size + 1 ≤ 9223372036854775807 := by
    have := Pt.trim_len (ppath l) [47]
    show (Lib.trimSuffix (ppath l) [47]).length + 1 ≤ _
    omega
  have HP : Hid (∀ m W, Calls Tryd.prog 12 #[.string (P m), .string (kb (Lib.trimSuffix (ppath l) [47]) ++ ⟨#[47]⟩)] W (fun e w' => e = .returned (.bool (decide ((Lib.trimSuffix (ppath l) [47] ++ [47]) <+: ppath m))) ∧ w' = W)) := Lib.hid (fun m W => by
    rw [kb_slash]
    exact pre_any _ _ W)
  have HBP : Hid (∀ m, Cl m → m ≠ l → ((Lib.trimSuffix (ppath l) [47] ++ [47]) <+: ppath m ↔ ∃ t, t ≠ [] ∧ m = l ++ t)) := Lib.hid (fun m hm hne => below_pre hl hm hne)
  generalize Lib.trimSuffix (ppath l) [47] = tl at c2 hz HP HBP
  clear hS H1 H2 M R0 hB hBi hi hmem hil hl hs T hcl
  go_enter Tryd.func21, Tryd.ntmps21
  go_wp2
  clear hrun
  generalize w.alloc (.mapIter (some g) clock #[] clock) = wo at HS0 ⊢
  generalize w.heap.size = r1 at HS0 ⊢
  go_loopg [5] todo0.length (fun q v wl => ∃ (todo : List ByteArray) (seen : Array Nat) (c0 m c : Nat) (A : Option Addr) (ts : List (List By)), q = todo.length ∧ v = .slice A m c ∧ Hid (ts.length = m) ∧ Hid (Coll H l todo ts) ∧ Hid (Rg Value.string es clock clock seen c0 todo) ∧ m + todo.length ≤ n ∧ Sep w0 wl (B ++ [.obj r1 (.mapIter (some g) clock seen c0), sR l A m c ts]))
  case atStart => exact ⟨todo0, #[], clock, 0, 0, none, [], rfl, rfl, Lib.hid rfl, HC0, HR0, by omega, HS0.out⟩
  case round =>
    clear HS0 HR0 HC0 wo htl
    obtain ⟨todo, seen, c0, m, c, A, ts, rfl, rfl, HTL, HCO, HRG, hm, hs⟩ := hrel
    have HS := Lib.hid hs
    clear hs
    rcases HS.out.rangeNext2 i B.length (by omega) (atI HBI.out) at0 HM.out kstr HRG.out 0 with ⟨rfl, hrun⟩ | ⟨x, a, w2, seen', todo', hx, hxa, hrun, hsz2, H2, R2, hen, hlen, hme⟩
    · have HF : Hid (Sep w0 wr (L ++ [sR l A m c ts])) := Lib.hid (HBK.out _ _ _ HS.out)
      clear HS HRG HM HBI HBK
      go_wp2
      go_ret
      exact ⟨A, m, c, ts, rfl, HTL.out, by omega, HCO.out, HF.out⟩
    · obtain ⟨mm, a', hmc, hma, rfl, rfl⟩ := tab_key HT.out hxa
      rw [set0] at H2
      have HS2 := Lib.hid H2
      have HR2 := Lib.hid R2
      have HX := Lib.hid hx
      have HME := Lib.hid hme
      have HMC := Lib.hid hmc
      have HMA := Lib.hid hma
      have hlen2 : todo'.length < todo.length := by omega
      clear H2 R2 HS HRG hx hxa hme hmc hma hsz2
      by_cases hml : mm = l
      · have HK : Hid (Coll H l todo' ts) := Lib.hid (coll_skip HCL.out HCO.out HMC.out (fun ⟨t, h1, h2⟩ => h1 (by rw [hml] at h2; simpa using h2)) HME.out)
        have heb : ((P mm).toList == (P l).toList) = true := by rw [hml]; simp
        clear hml
        go_wp2
        go_roundg todo'.length
        case measure => omega
        case rel => exact ⟨todo', seen', clock, m, c, A, ts, rfl, rfl, HTL, HK, HR2, by omega, HS2.out⟩
      · have heb : ((P mm).toList == (P l).toList) = false := P_ne HL.out HMC.out hml
        have c3 := Lib.hid (HP.out mm)
        by_cases hbb : (tl ++ [47]) <+: ppath mm
        · obtain ⟨t0', ht0, hmt⟩ := (HBP.out mm HMC.out hml).1 hbb
          subst hmt
          rw [decide_eq_true hbb] at c3
          have HK : Hid (Coll H l todo' (ts ++ [t0'])) := Lib.hid (coll_add HCL.out HCO.out ht0 HMA.out HX.out HME.out)
          have HTL2 : Hid ((ts ++ [t0']).length = m + 1) := Lib.hid (by rw [List.length_append, HTL.out]; rfl)
          clear hml hbb ht0
          go_wp2_with fail
          refine (c2.out _).mono ?_; rintro en w3 ⟨rfl, rfl⟩
          go_wp2_with fail
          refine (c3.out _).mono ?_; rintro en w3 ⟨rfl, rfl⟩
          have hnew := Rd.of_own (own_new w3 9 #[.string (P (l ++ t0'))] 1 1 rfl (by simp [maxLen]) (Nat.le_refl _))
          go_wp2_with (at_builtin; refine wpList_append_sep (HS2.out.alloc _) (B.length + 1) rfl (.tmp 23) (.tmp 25) 42 rfl 9 ti (.string ⟨#[]⟩) 1 16 Tryd.underlying42 hti t0 t1 t2 rfl (by omega) _ m _ rfl at1 _ _ 1 1 _ rfl hnew (by simp [Value.oneCell']) (by simp only [maxLen]; omega) (by omega) ?_; intro A6 c6 w4 hc6 hsz3 hs3; rw [set1] at hs3)
          go_roundg todo'.length
          case measure => omega
          case rel => exact ⟨todo', seen', clock, m + 1, c6, A6, ts ++ [t0'], rfl, rfl, HTL2, HK, HR2, by omega, by unfold sR; rw [List.flatMap_append]; exact hs3⟩
        · have HK : Hid (Coll H l todo' ts) := Lib.hid (coll_skip HCL.out HCO.out HMC.out (fun h => hbb ((HBP.out mm HMC.out hml).2 h)) HME.out)
          rw [decide_eq_false hbb] at c3
          clear hml hbb
          go_wp2_with fail
          refine (c2.out _).mono ?_; rintro en w3 ⟨rfl, rfl⟩
          go_wp2_with fail
          refine (c3.out _).mono ?_; rintro en w3 ⟨rfl, rfl⟩
          go_wp2
          go_roundg todo'.length
          case measure => omega
          case rel => exact ⟨todo', seen', clock, m, c, A, ts, rfl, rfl, HTL, HK, HR2, by omega, HS2.out⟩
end Tr
end Go.Proofs.YtgidkaidljiddaaDoor
