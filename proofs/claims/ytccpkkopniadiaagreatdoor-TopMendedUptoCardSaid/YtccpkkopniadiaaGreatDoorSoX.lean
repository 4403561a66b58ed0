/-
  Walk of the reference's closure that carries operations out on a copy of the files. Conditions: none beyond each theorem's own premises.
-/
import Derived.Test.YtccpkkopniadiaaGreatDoorSoW
import Derived.Sort.KeysCollected
namespace Go.Proofs.YtccpkkopniadiaaGreatDoor
open Go.RowKit Go.Shelf
set_option linter.unusedVariables false

theorem Sep.rangeNext2 {K α : Type} [DecidableEq K] {P : Program} {k : TypeId} {mk : K → Value} {ok : K → Prop} {enc : α → Value} {n g r : Nat} {h : K → Option α} {w0 w : World} {L : List It} {es : Array MapEntry} {clock since c0 : Nat} {seen : Array Nat} {todo : List K}
    (H : Sep w0 w L) (i j : Nat) (hij : i ≠ j) (hi : L[i]? = some (.obj g (.map es clock))) (hj : L[j]? = some (.obj r (.mapIter (some g) since seen c0))) (M : MIs P k mk enc es clock n h) (KK : KMk P k mk ok)
    (R : Rg mk es clock since seen c0 todo) (ty : TypeId) :
    (todo = [] ∧ (Instr.next (.pointer (some ⟨r, 0, none⟩)) false ty).run P w = .ok (.tuple #[.bool false]) w) ∨
    ∃ x a w1 seen' todo', x ∈ todo ∧ h x = some a ∧ (Instr.next (.pointer (some ⟨r, 0, none⟩)) false ty).run P w = .ok (.tuple #[.bool true, mk x, enc a]) w1 ∧ w1.heap.size = w.heap.size ∧
      Sep w0 w1 (L.set j (.obj r (.mapIter (some g) since seen' clock))) ∧ Rg mk es clock since seen' clock todo' ∧ (Instr.entry (.pointer (some ⟨r, 0, none⟩))).run P w1 = .ok (.tuple #[mk x, enc a]) w1 ∧ todo'.length + 1 = todo.length ∧ ∀ y, y ∈ todo' ↔ (y ≠ x ∧ y ∈ todo) := by
  rcases H.rangeNext i j hij hi hj M KK R ty with h1 | ⟨x, a, w1, seen', hx, ha, hrun, hsz, H2, R2, hen⟩
  · exact .inl h1
  · refine .inr ⟨x, a, w1, seen', _, hx, ha, hrun, hsz, H2, R2, hen, ?_, fun y => R.nd.mem_erase_iff⟩
    have h1 := List.length_erase_of_mem hx
    have h2 := List.length_pos_of_mem hx
    omega
namespace So
open Dr

theorem getSet_self' {l : List It} {i : Nat} {x y : It} (h : l[i]? = some x) : (l.set i y)[i]? = some y := by
  rw [List.getElem?_set, if_pos rfl, if_pos (List.getElem?_eq_some_iff.1 h).1]
theorem set_self' {l : List It} {i : Nat} {x : It} (h : l[i]? = some x) : l.set i x = l := by
  obtain ⟨h1, rfl⟩ := List.getElem?_eq_some_iff.1 h
  exact List.set_getElem_self h1
theorem at0 {B : List It} {X Y : It} : (B ++ [X, Y])[B.length]? = some X := by simp
theorem at1 {B : List It} {X Y : It} : (B ++ [X, Y])[B.length + 1]? = some Y := by simp
theorem set0 {B : List It} {X Y Z : It} : (B ++ [X, Y]).set B.length Z = B ++ [Z, Y] := by simp
theorem set1 {B : List It} {X Y Z : It} : (B ++ [X, Y]).set (B.length + 1) Z = B ++ [X, Z] := by simp
theorem atI {B R : List It} {Z : It} {i : Nat} (h : B[i]? = some Z) : (B ++ R)[i]? = some Z := by
  rw [List.getElem?_append_left (List.getElem?_eq_some_iff.1 h).1]
  exact h
theorem sub1 {B : List It} {X Y : It} : (B ++ [X]).Sublist (B ++ [X, Y]) := List.Sublist.append_left (List.Sublist.cons_cons _ (List.nil_sublist _)) _

open Classical in
/-- a copy while it is made -/
noncomputable def part (h : Fs) (todo : List ByteArray) : Fs := fun x => if x ∈ todo then none else h x
theorem part_next {h : Fs} {todo todo' : List ByteArray} {x a : ByteArray} (hx : x ∈ todo) (ha : h x = some a) (hm : ∀ y, y ∈ todo' ↔ (y ≠ x ∧ y ∈ todo)) : mup (part h todo) x a = part h todo' := by
  funext y
  unfold part
  by_cases hy : y = x
  · subst hy
    rw [mup_same, if_neg (fun e => ((hm y).1 e).1 rfl), ha]
  · rw [mup_other _ _ hy]
    by_cases h2 : y ∈ todo
    · rw [if_pos h2, if_pos ((hm y).2 ⟨hy, h2⟩)]
    · rw [if_neg h2, if_neg (fun e => h2 ((hm y).1 e).2)]

set_option maxRecDepth 100000 in
set_option maxHeartbeats 3200000 in
theorem copy_any (w0 w : World) (L : List It) (i j g n : Nat) (h : Fs) (A : Option Addr) (m c : Nat) (C : List Op) (k : Nat) (H : Sep w0 w L) (hij : i ≠ j) (hi : L[i]? = some (fm g n h)) (hj : L[j]? = some (oR A m c C)) (hl : C.length = m) (hk : k ≤ m)
    (hsz : ∀ o ∈ C, o.nm.size ≤ maxLen) (hn : n + m < maxLen) :
    Calls Tryz.prog 41 #[.map (some g), .slice A k c] w (fun e w' => ∃ g' n', e = .returned (.map (some g')) ∧ n' ≤ n + k ∧ Sep w0 w' (L ++ [fm g' n' (now h (C.take k))])) := by
  have hmm := @run_makeMap Tryz.prog
  have hil := (List.getElem?_eq_some_iff.1 hi).1
  have hjl := (List.getElem?_eq_some_iff.1 hj).1
  have H1 := H.newMap Tryz.prog 9 Value.string (Value.string)
  obtain ⟨es, clock, M, H2⟩ := H1.mapOpen i (by rw [List.getElem?_append_left hil]; exact hi)
  rw [List.set_append_left _ _ hil] at H2
  obtain ⟨B, hB⟩ : ∃ B, B = L.set i (.obj g (.map es clock)) := ⟨_, rfl⟩
  rw [← hB] at H2
  have hBi : B[i]? = some (.obj g (.map es clock)) := by rw [hB]; exact getSet_self' hi
  have hBl : i < B.length := by rw [hB, List.length_set]; exact hil
  obtain ⟨hrun, H3, todo0, R0, htl, hmem⟩ := H2.rangeStart i (atI hBi) M kstr Tryz.underlying92
  have hsz1 : (w.alloc (.map #[] 0)).heap.size = w.heap.size + 1 := by simp
  rw [hsz1] at hrun H3
  have HBK : Hid (∀ (w' : World) (X Y : It), Sep w0 w' (B ++ [X, Y]) → Sep w0 w' (L ++ [X])) := Lib.hid (fun w' X Y K => by
    have K2 := (K.sub sub1).mapShut i (atI hBi) M
    rw [List.set_append_left _ _ hBl, hB, List.set_set, set_self' hi] at K2
    exact K2)
  have HP0 : Hid (mno = part h todo0) := Lib.hid (by
    funext x
    unfold part mno
    by_cases hx : x ∈ todo0
    · rw [if_pos hx]
    · rw [if_neg hx]
      cases hh : h x with
      | none => rfl
      | some a => exact absurd ((hmem x).2 (by rw [hh]; rfl)) hx)
  have HKY : Hid (∀ x a, h x = some a → x.size ≤ maxLen) := Lib.hid (fun x a hx => by
    obtain ⟨e, m1, k1, _⟩ := M.full x a hx
    obtain ⟨l, hl⟩ := M.fit.keys e m1
    obtain ⟨y, hy, _, hle⟩ := Maps.keyOf_str Tryz.underlying9 hl
    rw [k1] at hy
    have := Value.string.inj hy
    subst this
    simpa [ByteArray.size] using hle)
  have HS0 : Hid (Sep w0 ((w.alloc (.map #[] 0)).alloc (.mapIter (some g) clock #[] clock)) (B ++ [fm w.heap.size 0 (part h todo0), .obj (w.heap.size + 1) (.mapIter (some g) clock #[] clock)])) := Lib.hid (by
    rw [← HP0.out]
    have h := H3
    rw [List.append_assoc] at h
    exact h)
  have HM := Lib.hid M
  have HR0 := Lib.hid R0
  have HBI := Lib.hid hBi
  have HJ := Lib.hid hj
  have HL := Lib.hid hl
  have HSZ := Lib.hid hsz
  have hnn : n + m ≤ 9223372036854775806 := by unfold maxLen at hn; omega
  clear H H1 H2 H3 M R0 hB hBi hi hj hl hsz hmem HP0 hij hil hjl hsz1
  go_enter Tryz.func41, Tryz.ntmps41
  go_wp2
  clear hrun hmm
  generalize (w.alloc (.map #[] 0)).alloc (.mapIter (some g) clock #[] clock) = wo at HS0 ⊢
  generalize w.heap.size + 1 = r1 at HS0 ⊢
  generalize w.heap.size = go at HS0 ⊢
  go_loopg [] todo0.length (fun q wl => ∃ (todo : List ByteArray) (seen : Array Nat) (c0 no : Nat), q = todo.length ∧ Hid (Rg Value.string es clock clock seen c0 todo) ∧ no + todo.length = n ∧ Sep w0 wl (B ++ [fm go no (part h todo), .obj r1 (.mapIter (some g) clock seen c0)]))
  case atStart => exact ⟨todo0, #[], clock, 0, rfl, HR0, by omega, HS0.out⟩
  case round =>
    clear HS0 HR0 wo htl
    obtain ⟨todo, seen, c0, no, rfl, HRG, hno, hs⟩ := hrel
    have HS := Lib.hid hs
    clear hs
    rcases HS.out.rangeNext2 i (B.length + 1) (by omega) (atI HBI.out) at1 HM.out kstr HRG.out 0 with ⟨rfl, hrun⟩ | ⟨x, a, w2, seen', todo', hx, hxa, hrun, hsz2, H2, R2, hen, hlen, hme⟩
    · have HF : Hid (Sep w0 wr (L ++ [fm go n h])) := Lib.hid (by
        have h1 := HBK.out _ _ _ HS.out
        have e : part h [] = h := funext fun x => by unfold part; rw [if_neg (by simp)]
        rw [e] at h1
        have e2 : no = n := by simpa using hno
        rw [e2] at h1
        exact h1)
      clear HS HRG HM HBI HBK HKY hno
      go_wp2
      clear hrun
      go_loopg [23] k (fun q i wl => ∃ (p n' : Nat), p ≤ k ∧ q = k - p ∧ i = .int .i64 (p : Int) ∧ n' ≤ n + p ∧ Sep w0 wl (L ++ [fm go n' (now h (C.take p))]))
      case atStart => exact ⟨0, n, Nat.zero_le _, rfl, rfl, Nat.le_refl _, HF.out⟩
      case round =>
        clear HF
        obtain ⟨p, n', hp, rfl, rfl, hn', hs⟩ := hrel
        have HS := Lib.hid hs
        clear hs
        by_cases hlt : p < k
        · obtain ⟨b, off, rfl, hb, hc⟩ := (HS.out.rd j (atI HJ.out)).at_ Op.len (by omega)
          obtain ⟨o, ho⟩ : ∃ o, C[p]? = some o := ⟨_, List.getElem?_eq_getElem (by rw [HL.out]; omega)⟩
          have q0 : wr.cell? ⟨b, off + p * 4, none⟩ = some (.int .i64 o.kind) := hc p 0 o _ ho rfl
          have q1 : wr.cell? ⟨b, off + p * 4 + 1, none⟩ = some (.string o.nm) := hc p 1 o _ ho rfl
          have q2 : wr.cell? ⟨b, off + p * 4 + 2, none⟩ = some (.string o.dt) := hc p 2 o _ ho rfl
          have q3 : wr.cell? ⟨b, off + p * 4 + 3, none⟩ = some (.int .i64 o.keep) := hc p 3 o _ ho rfl
          have i0 : (0 : Int) ≤ (p : Int) := by omega
          have i1 : (p : Int) < (k : Int) := by omega
          have HNX : Hid (now h (C.take (p + 1)) = ap (now h (C.take p)) o) := Lib.hid (now_take ho)
          have HOS : Hid (o.nm.size ≤ maxLen) := Lib.hid (HSZ.out o (List.mem_of_getElem? ho))
          have HS2 : Hid (Sep w0 (wr.alloc (.cells #[.int .i64 o.kind, .string o.nm, .string o.dt, .int .i64 o.keep] 53)) (L ++ [fm go n' (now h (C.take p)), oC wr.heap.size o])) := Lib.hid (by
            have h := HS.out.new 53 o.cells
            rw [List.append_assoc] at h
            exact h)
          clear hc ho HS
          go_upto_region 9 with (fail)
          clear q0 q1 q2 q3
          generalize wr.alloc (.cells #[.int .i64 o.kind, .string o.nm, .string o.dt, .int .i64 o.keep] 53) = wo at HS2 ⊢
          generalize wr.heap.size = gx at HS2 ⊢
          have e0 := HS2.out.cell (L.length + 1) at1 (k := 0) rfl
          have e1 := HS2.out.cell (L.length + 1) at1 (k := 1) rfl
          have e2 := HS2.out.cell (L.length + 1) at1 (k := 2) rfl
          by_cases hkd : o.kind = 1
          · obtain ⟨w3, hst, _, K⟩ := HS2.out.store L.length at0 kstr HOS.out Tryz.underlying92 (by unfold maxLen; omega) o.dt
            rw [set0] at K
            have HK : Hid (Sep w0 w3 (L ++ [fm go (if (now h (C.take p) o.nm).isSome then n' else n' + 1) (now h (C.take (p + 1)))])) := Lib.hid (by
              rw [HNX.out, ap_write hkd]
              exact K.sub sub1)
            have HLE : Hid ((if (now h (C.take p) o.nm).isSome then n' else n' + 1) ≤ n + (p + 1)) := Lib.hid (by split <;> omega)
            rw [hkd] at e0
            clear K HS2 hkd
            go_wp2
            go_roundg (k - (p + 1))
            case measure => omega
            case rel => exact ⟨p + 1, _, by omega, rfl, by go_num, HLE.out, HK.out⟩
          · obtain ⟨w3, hst, _, K⟩ := HS2.out.drop L.length at0 kstr HOS.out Tryz.underlying92
            rw [set0] at K
            have HK : Hid (Sep w0 w3 (L ++ [fm go (if (now h (C.take p) o.nm).isSome then n' - 1 else n') (now h (C.take (p + 1)))])) := Lib.hid (by
              rw [HNX.out, ap_other hkd]
              exact K.sub sub1)
            have HLE : Hid ((if (now h (C.take p) o.nm).isSome then n' - 1 else n') ≤ n + (p + 1)) := Lib.hid (by split <;> omega)
            have hk0 : (o.kind == 1) = false := by simp [hkd]
            clear K HS2 hkd
            go_wp2
            go_roundg (k - (p + 1))
            case measure => omega
            case rel => exact ⟨p + 1, _, by omega, rfl, by go_num, HLE.out, HK.out⟩
        · obtain rfl : p = k := by omega
          have HFIN := HS
          clear HS
          go_wp2
          go_ret
          exact ⟨go, n', rfl, hn', HFIN.out⟩
    · rw [set1] at H2
      obtain ⟨w3, hst, hsz3, K3⟩ := H2.store B.length at0 kstr (HKY.out x a hxa) Tryz.underlying92 (by omega) a
      have hpn : part h todo x = none := if_pos hx
      rw [set0, hpn, if_neg (by simp), part_next hx hxa hme] at K3
      have HS3 := Lib.hid K3
      have HR3 := Lib.hid R2
      clear HS H2 K3 R2 hsz2 hsz3 hx hxa hme hpn HRG
      go_wp2
      go_roundg todo'.length
      case measure => omega
      case rel => exact ⟨todo', seen', clock, no + 1, rfl, HR3, by omega, HS3.out⟩
end So
end Go.Proofs.YtccpkkopniadiaaGreatDoor
