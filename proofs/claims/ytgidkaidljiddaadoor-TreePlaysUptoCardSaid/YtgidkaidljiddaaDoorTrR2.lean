/-
  Walk of the reference's step. Conditions: none beyond the theorem's own premises.
-/
import Derived.Test.YtgidkaidljiddaaDoorTrR
import Derived.Test.YtgidkaidljiddaaDoorTrV
import Derived.Test.YtgidkaidljiddaaDoorTrW6
namespace Go.Proofs.YtgidkaidljiddaaDoor
open Go.RowKit Go.Shelf
set_option linter.unusedVariables false
namespace Tr
open Dr Pt

/-- a list of names in memory, whatever its place -/
def RW (v : Value) (l : List By) (w : World) : Prop := ∃ A c, v = .slice A l.length c ∧ Rd w w.heap.size 1 A l.length (l.flatMap sc)
theorem RW.later {v : Value} {l : List By} {w w' : World} (h : RW v l w) (hb : Below w.heap.size w w') : RW v l w' := by
  obtain ⟨A, c, h1, h2⟩ := h
  exact ⟨A, c, h1, h2.later hb⟩
def bV : Value := .func (.func 11) #[] #[]
def fV (gt : Nat) : Value := .func (.func 13) #[] #[.pointer (some ⟨gt, 0, none⟩)]
abbrev tC (gt gm : Nat) : It := .cells gt 47 [.map (some gm)]
abbrev RT (gf gb gr gt : Nat) (files : Int) (X : List It) : List It := .cells gf 3 [.int .i64 files] :: .cells gb 48 [bV] :: .cells gr 53 [fV gt] :: X
abbrev RS (gt gm gf gb gr n : Nat) (h : ByteArray → Option Int) (files : Int) (X : List It) : List It := tC gt gm :: rmap gm n h :: RT gf gb gr gt files X
theorem RS_drop {w0 w : World} {gt gm gf gb gr n : Nat} {h : ByteArray → Option Int} {files : Int} {X : List It} {B : It} (H : Sep w0 w (RS gt gm gf gb gr n h files (X ++ [B]))) : Sep w0 w (RS gt gm gf gb gr n h files X) :=
  H.sub (((((List.sublist_append_left X [B]).cons_cons _).cons_cons _).cons_cons _).cons_cons _ |>.cons_cons _)
theorem RS_last {gt gm gf gb gr n : Nat} {h : ByteArray → Option Int} {files : Int} {X : List It} {B : It} : (RS gt gm gf gb gr n h files (X ++ [B]))[X.length + 5]? = some B := by
  unfold RS RT
  rw [List.getElem?_cons_succ, List.getElem?_cons_succ, List.getElem?_cons_succ, List.getElem?_cons_succ, List.getElem?_cons_succ]
  exact atL
def RStepRet (w0 : World) (gt gf gb gr : Nat) (X : List It) (n : Nat) (files : Int) (e : Int) (H' : Tree) (F' : Nat → Bool) (nn' : Nat) (en : Ending) (w' : World) : Prop :=
  en = .returned (.int .i64 e) ∧ ∃ gm' n' h' V' files', n' ≤ n + 1 ∧ files' ≤ files + 1 ∧ Tab H' V' h' ∧ RV F' V' nn' files' ∧ Sep w0 w' (RS gt gm' gf gb gr n' h' files' X)
theorem cut_path {p t : List By} (hp : p ≠ []) (W : World) : (Instr.slice 9 (.string (P (p ++ t))) (some (.int .i64 ((P p).size : Int))) none none).run Tryd.prog W = .ok (.string (kb ((ppath (p ++ t)).drop (ppath p).length))) W := by
  rw [run_slice_string_from_if W 9 (P (p ++ t)) .i64 ((P p).size : Int) Tryd.underlying9]
  have h3 : (P p).size ≤ (P (p ++ t)).size := by
    show (ppath p).length ≤ (ppath (p ++ t)).length
    rw [ppath_ne hp, ppath_ne (show p ++ t ≠ [] by simp [hp]), slashed_append, List.length_append]
    exact Nat.le_add_right _ _
  rw [if_pos ⟨by omega, by omega⟩, Int.toNat_natCast, Pt.bs_ext (P (p ++ t)) ((ppath (p ++ t)).drop (ppath p).length) _ _ (by
    have e : (P (p ++ t)).data.toList = ppath (p ++ t) := by simp [P, kb]
    rw [e]
    show List.drop (ppath p).length (List.take (ppath (p ++ t)).length _) = _
    rw [List.take_length])]
  rfl
theorem rv_new {F : Nat → Bool} {V : Nat → Int} {nn : Nat} {files : Int} (R : RV F V nn files) : RV (setF F nn true) (fun a => if a = nn then 0 else V a) (nn + 1) files := by
  refine ⟨fun a ha hF => ?_, fun a ha hF => ?_, fun a ha => ?_, R.low, fun a b ha hb hF e => ?_⟩
  · by_cases h : a = nn
    · rw [if_pos h]
    · rw [if_neg h]
      unfold setF at hF
      rw [if_neg h] at hF
      exact R.fold a (by omega) hF
  · unfold setF at hF
    by_cases h : a = nn
    · rw [if_pos h] at hF; cases hF
    · rw [if_neg h] at hF ⊢
      exact R.pos a (by omega) hF
  · by_cases h : a = nn
    · rw [if_pos h]; exact R.low
    · rw [if_neg h]; exact R.le a (by omega)
  · unfold setF at hF
    by_cases h : a = nn
    · rw [if_pos h] at hF; cases hF
    · rw [if_neg h] at hF e
      by_cases h2 : b = nn
      · rw [if_pos h2] at e
        have := R.pos a (by omega) hF
        omega
      · rw [if_neg h2] at e
        exact R.inj a b (by omega) (by omega) hF e
theorem rv_file {F : Nat → Bool} {V : Nat → Int} {nn : Nat} {files : Int} (R : RV F V nn files) : RV (setF F nn false) (fun a => if a = nn then files + 1 else V a) (nn + 1) (files + 1) := by
  have h0 := R.low
  refine ⟨fun a ha hF => ?_, fun a ha hF => ?_, fun a ha => ?_, by omega, fun a b ha hb hF e => ?_⟩
  · unfold setF at hF
    by_cases h : a = nn
    · rw [if_pos h] at hF; cases hF
    · rw [if_neg h] at hF ⊢
      exact R.fold a (by omega) hF
  · unfold setF at hF
    by_cases h : a = nn
    · rw [if_pos h]; omega
    · rw [if_neg h] at hF ⊢
      exact R.pos a (by omega) hF
  · by_cases h : a = nn
    · rw [if_pos h]; omega
    · rw [if_neg h]; have := R.le a (by omega); omega
  · unfold setF at hF
    by_cases h : a = nn
    · by_cases h2 : b = nn
      · omega
      · rw [if_pos h, if_neg h2] at e
        have := R.le b (by omega)
        omega
    · rw [if_neg h] at hF e
      by_cases h2 : b = nn
      · rw [if_pos h2] at e
        have := R.le a (by omega)
        omega
      · rw [if_neg h2] at e
        exact R.inj a b (by omega) (by omega) hF e

set_option maxRecDepth 100000 in
set_option maxHeartbeats 12800000 in
theorem rstep_any (w0 w : World) (X : List It) (gt gm gf gb gr n : Nat) (h : ByteArray → Option Int) (files : Int) (V : Nat → Int) (F : Nat → Bool) (nn : Nat) (H : Tree) (kind : Int) (x y : By) (K : Nat) (e : Int) (H' : Tree) (F' : Nat → Bool) (nn' : Nat)
    (hS : Sep w0 w (RS gt gm gf gb gr n h files X)) (T : Tab H V h) (I : TI H F nn) (hV : RV F V nn files) (hx : x.length ≤ 1048576) (hy : y.length ≤ 1048576)
    (hn : n ≤ 5864062014804) (hfl : files ≤ 5864062014804) (hK : ∀ m a, H m = some a → (ppath m).length ≤ K) (hKb : K ≤ 9223372036850000000) (hw : Way H F nn ⟨kind, parts x, parts y⟩ e H' F' nn') :
    Calls Tryd.prog 17 #[.agg #[.int .i64 kind, .string (bs x), .string (bs y)], .pointer (some ⟨gt, 0, none⟩), .pointer (some ⟨gb, 0, none⟩), .pointer (some ⟨gr, 0, none⟩), .pointer (some ⟨gf, 0, none⟩)] w (RStepRet w0 gt gf gb gr X n files e H' F' nn') := by
  have eg1 : ∀ args w, (callFunc 11 args).run Tryd.prog w = .ok (.enter 11 args) w := enters_of Tryd.func11 (by kernel_rfl) rfl
  have eg2 : ∀ args w, (callFunc 13 args).run Tryd.prog w = .ok (.enter 13 args) w := enters_of Tryd.func13 (by kernel_rfl) rfl
  have CA := Lib.hid (fun W => pparts_any x (by omega) W)
  have CB := Lib.hid (fun W => pparts_any y (by omega) W)
  have CW1 : Hid (∀ A c (W : World), Rd W W.heap.size 1 A (parts x).length ((parts x).flatMap sc) → Calls Tryd.prog 15 #[.slice A (parts x).length c] W (Ret W (.string (P (parts x))))) := Lib.hid (fun A c W hr => ppath_any A _ c (parts x) W hr rfl (by have := parts_sum x; omega))
  have CW2 : Hid (∀ A c (W : World), Rd W W.heap.size 1 A (parts y).length ((parts y).flatMap sc) → Calls Tryd.prog 15 #[.slice A (parts y).length c] W (Ret W (.string (P (parts y))))) := Lib.hid (fun A c W hr => ppath_any A _ c (parts y) W hr rfl (by have := parts_sum y; omega))
  have LP := Lib.hid (clean_len x hx)
  have LQ := Lib.hid (clean_len y hy)
  have CP := Lib.hid (cl_parts x)
  have CQ := Lib.hid (cl_parts y)
  have HW := Lib.hid hw
  generalize parts x = p at CA CW1 LP CP HW
  generalize parts y = q at CB CW2 LQ CQ HW
  have HT := Lib.hid T
  have HI := Lib.hid I
  have HK := Lib.hid hK
  have HV := Lib.hid hV
  have K1 : Hid ((P p).size ≤ maxLen) := Lib.hid (by have := LP.out; rw [P_size]; simp only [maxLen]; omega)
  have K2 : Hid ((P q).size ≤ maxLen) := Lib.hid (by have := LQ.out; rw [P_size]; simp only [maxLen]; omega)
  obtain ⟨LB, hLB⟩ : ∃ LB, LB = RS gt gm gf gb gr n h files (X ++ [oC w.heap.size kind x y]) := ⟨_, rfl⟩
  have HSB : Hid (Sep w0 (w.alloc (.cells #[.int .i64 kind, .string (bs x), .string (bs y)] 39)) LB) := Lib.hid (by rw [hLB]; exact hS.new 39 [.int .i64 kind, .string (bs x), .string (bs y)])
  have HX1 : Hid (∀ W, Sep w0 W LB → W.cell? ⟨w.heap.size, 1, none⟩ = some (.string (bs x))) := Lib.hid (fun W hW => by rw [hLB] at hW; exact hW.cell _ RS_last (k := 1) rfl)
  have HX2 : Hid (∀ W, Sep w0 W LB → W.cell? ⟨w.heap.size, 2, none⟩ = some (.string (bs y))) := Lib.hid (fun W hW => by rw [hLB] at hW; exact hW.cell _ RS_last (k := 2) rfl)
  have HLB := Lib.hid hLB
  clear hw T I hK hx hy hS hV hLB
  go_enter Tryd.func17, Tryd.ntmps17
  go_upto_region 1 with (fail)
  generalize w.alloc (.cells #[.int .i64 kind, .string (bs x), .string (bs y)] 39) = w1 at HSB ⊢
  generalize w.heap.size = gx at HSB HX1 HX2 HLB ⊢
  refine wp_region_inv0 (fun ac0 L ac w' => ∃ x7 x8 x19 x20 x21 x22 x23 x24 x25 x26, ac = turn ac0 [(7, x7), (8, x8), (19, x19), (20, x20), (21, x21), (22, x22), (23, x23), (24, x24), (25, x25), (26, x26)] ∧ (L 0 = true → x19 = .pointer (some ⟨gx, 1, none⟩)) ∧ (L 1 = true → x20 = .string (bs x)) ∧ (L 3 = true → x22 = .string (P p)) ∧ (L 4 = true → x23 = .pointer (some ⟨gx, 2, none⟩)) ∧ (L 5 = true → x24 = .string (bs y)) ∧ (L 7 = true → x26 = .string (P q)) ∧ (L 8 = true → x7 = .string (P p)) ∧ (L 9 = true → x8 = .string (P q)) ∧ (L 1 = true → L 0 = true) ∧ (L 2 = true → L 1 = true) ∧ (L 3 = true → L 2 = true) ∧ (L 5 = true → L 4 = true) ∧ (L 6 = true → L 3 = true ∧ L 5 = true) ∧ (L 7 = true → L 6 = true) ∧ (L 8 = true → L 0 = true ∧ L 1 = true ∧ L 2 = true ∧ L 3 = true ∧ L 7 = true) ∧ (L 9 = true → L 0 = true ∧ L 1 = true ∧ L 2 = true ∧ L 3 = true ∧ L 4 = true ∧ L 5 = true ∧ L 6 = true ∧ L 7 = true ∧ L 8 = true) ∧ (Sep w0 w' LB ∧ (L 2 = true → RW x21 p w') ∧ (L 6 = true → RW x25 q w'))) rfl (by kernel_rfl) ?_ ?_ ?_
  · simp only [turn, List.foldl_cons, List.foldl_nil, List.setIfInBounds_toArray, List.set_cons_succ, List.set_cons_zero]
    exact ⟨_, _, _, _, _, _, _, _, _, _, rfl, (fun h => absurd h (by decide)), (fun h => absurd h (by decide)), (fun h => absurd h (by decide)), (fun h => absurd h (by decide)), (fun h => absurd h (by decide)), (fun h => absurd h (by decide)), (fun h => absurd h (by decide)), (fun h => absurd h (by decide)), (fun h => absurd h (by decide)), (fun h => absurd h (by decide)), (fun h => absurd h (by decide)), (fun h => absurd h (by decide)), (fun h => absurd h (by decide)), (fun h => absurd h (by decide)), (fun h => absurd h (by decide)), (fun h => absurd h (by decide)), by simpa using HSB.out.drew⟩
  · rintro L ac w' i o ⟨x7, x8, x19, x20, x21, x22, x23, x24, x25, x26, ha, p0, p1, p3, p4, p5, p7, p8, p9, q1, q2, q3, q5, q6, q7, q8, q9, hS⟩ ho hi he
    simp only [turn, List.foldl_cons, List.foldl_nil, List.setIfInBounds_toArray, List.set_cons_succ, List.set_cons_zero] at ha ⊢
    subst ha
    rcases i with _|_|_|_|_|_|_|_|_|_|i
    all_goals cases ho
    all_goals simp [Region.binds] at he
    · have h1 : L 1 = false := by cases hh : L 1 with | false => rfl | true => (have hq := q1 hh; simp [hi] at hq)
      have h8 : L 8 = false := by cases hh : L 8 with | false => rfl | true => (have hq := q8 hh; simp [hi] at hq)
      have h9 : L 9 = false := by cases hh : L 9 with | false => rfl | true => (have hq := q9 hh; simp [hi] at hq)
      have h2 : L 2 = false := by cases hh : L 2 with | false => rfl | true => (have hq := q2 hh; simp [h1] at hq)
      have h3 : L 3 = false := by cases hh : L 3 with | false => rfl | true => (have hq := q3 hh; simp [h2] at hq)
      have h6 : L 6 = false := by cases hh : L 6 with | false => rfl | true => (have hq := q6 hh; simp [h3] at hq)
      have h7 : L 7 = false := by cases hh : L 7 with | false => rfl | true => (have hq := q7 hh; simp [h6] at hq)
      refine wpOp_step rfl (fun K hK => ?_)
      go_simp
      exact hK _ _ ⟨_, _, _, _, _, _, _, _, _, _, rfl, (fun _ => rfl), (by simp [h1]), (by simp [h3]), (by first | exact p4 | exact fun _ => rfl), (by first | exact p5 | exact fun _ => rfl), (by simp [h7]), (by simp [h8]), (by simp [h9]), (by simp [h1]), (by simp [h2]), (by simp [h3]), (by simpa using q5), (by simp [h6]), (by simp [h7]), (by simp [h8]), (by simp [h9]), (by simpa [h1, h8, h9, h2, h3, h6, h7] using hS)⟩
    · have h2 : L 2 = false := by cases hh : L 2 with | false => rfl | true => (have hq := q2 hh; simp [hi] at hq)
      have h8 : L 8 = false := by cases hh : L 8 with | false => rfl | true => (have hq := q8 hh; simp [hi] at hq)
      have h9 : L 9 = false := by cases hh : L 9 with | false => rfl | true => (have hq := q9 hh; simp [hi] at hq)
      have h3 : L 3 = false := by cases hh : L 3 with | false => rfl | true => (have hq := q3 hh; simp [h2] at hq)
      have h6 : L 6 = false := by cases hh : L 6 with | false => rfl | true => (have hq := q6 hh; simp [h3] at hq)
      have h7 : L 7 = false := by cases hh : L 7 with | false => rfl | true => (have hq := q7 hh; simp [h6] at hq)
      obtain rfl := p0 (by simp [he])
      have f0 := HX1.out w' hS.1
      refine wpOp_step rfl (fun K hK => ?_)
      go_simp
      exact hK _ _ ⟨_, _, _, _, _, _, _, _, _, _, rfl, (by first | exact p0 | exact fun _ => rfl), (fun _ => rfl), (by simp [h3]), (by first | exact p4 | exact fun _ => rfl), (by first | exact p5 | exact fun _ => rfl), (by simp [h7]), (by simp [h8]), (by simp [h9]), (by simp [he]), (by simp [h2]), (by simp [h3]), (by simpa using q5), (by simp [h6]), (by simp [h7]), (by simp [h8]), (by simp [h9]), (by simpa [h2, h8, h9, h3, h6, h7] using hS)⟩
    · have h3 : L 3 = false := by cases hh : L 3 with | false => rfl | true => (have hq := q3 hh; simp [hi] at hq)
      have h8 : L 8 = false := by cases hh : L 8 with | false => rfl | true => (have hq := q8 hh; simp [hi] at hq)
      have h9 : L 9 = false := by cases hh : L 9 with | false => rfl | true => (have hq := q9 hh; simp [hi] at hq)
      have h6 : L 6 = false := by cases hh : L 6 with | false => rfl | true => (have hq := q6 hh; simp [h3] at hq)
      have h7 : L 7 = false := by cases hh : L 7 with | false => rfl | true => (have hq := q7 hh; simp [h6] at hq)
      obtain rfl := p1 (by simp [he])
      refine wpOp_step rfl (fun K hK => ?_)
      go_simp
      refine (CA.out w').mono ?_; rintro en w5 ⟨A5, c5, _, rfl, hs5⟩
      have hb5 := hs5.below
      exact hK _ _ ⟨_, _, _, _, _, _, _, _, _, _, rfl, (by first | exact p0 | exact fun _ => rfl), (by first | exact p1 | exact fun _ => rfl), (by simp [h3]), (by first | exact p4 | exact fun _ => rfl), (by first | exact p5 | exact fun _ => rfl), (by simp [h7]), (by simp [h8]), (by simp [h9]), (by simpa using q1), (by simp [he]), (by simp [h3]), (by simpa using q5), (by simp [h6]), (by simp [h7]), (by simp [h8]), (by simp [h9]), ⟨hS.1.later hb5, fun _ => ⟨A5, c5, rfl, hs5.rd 0 rfl⟩, fun h => (hS.2.2 (by simpa using h)).later hb5⟩⟩
    · have h6 : L 6 = false := by cases hh : L 6 with | false => rfl | true => (have hq := q6 hh; simp [hi] at hq)
      have h8 : L 8 = false := by cases hh : L 8 with | false => rfl | true => (have hq := q8 hh; simp [hi] at hq)
      have h9 : L 9 = false := by cases hh : L 9 with | false => rfl | true => (have hq := q9 hh; simp [hi] at hq)
      have h7 : L 7 = false := by cases hh : L 7 with | false => rfl | true => (have hq := q7 hh; simp [h6] at hq)
      obtain ⟨A4, c4, rfl, hr4⟩ := hS.2.1 (by simp [he])
      refine wpOp_step rfl (fun K hK => ?_)
      go_simp
      refine (CW1.out A4 c4 w' hr4).mono ?_; rintro en w5 ⟨rfl, hb5⟩
      exact hK _ _ ⟨_, _, _, _, _, _, _, _, _, _, rfl, (by first | exact p0 | exact fun _ => rfl), (by first | exact p1 | exact fun _ => rfl), (fun _ => rfl), (by first | exact p4 | exact fun _ => rfl), (by first | exact p5 | exact fun _ => rfl), (by simp [h7]), (by simp [h8]), (by simp [h9]), (by simpa using q1), (by simpa using q2), (by simp [he]), (by simpa using q5), (by simp [h6]), (by simp [h7]), (by simp [h8]), (by simp [h9]), ⟨hS.1.later hb5, fun h => (hS.2.1 (by simpa using h)).later hb5, fun h => (hS.2.2 (by simpa using h)).later hb5⟩⟩
    · have h5 : L 5 = false := by cases hh : L 5 with | false => rfl | true => (have hq := q5 hh; simp [hi] at hq)
      have h9 : L 9 = false := by cases hh : L 9 with | false => rfl | true => (have hq := q9 hh; simp [hi] at hq)
      have h6 : L 6 = false := by cases hh : L 6 with | false => rfl | true => (have hq := q6 hh; simp [h5] at hq)
      have h7 : L 7 = false := by cases hh : L 7 with | false => rfl | true => (have hq := q7 hh; simp [h6] at hq)
      have h8 : L 8 = false := by cases hh : L 8 with | false => rfl | true => (have hq := q8 hh; simp [h7] at hq)
      refine wpOp_step rfl (fun K hK => ?_)
      go_simp
      exact hK _ _ ⟨_, _, _, _, _, _, _, _, _, _, rfl, (by first | exact p0 | exact fun _ => rfl), (by first | exact p1 | exact fun _ => rfl), (by first | exact p3 | exact fun _ => rfl), (fun _ => rfl), (by simp [h5]), (by simp [h7]), (by simp [h8]), (by simp [h9]), (by simpa using q1), (by simpa using q2), (by simpa using q3), (by simp [h5]), (by simp [h6]), (by simp [h7]), (by simp [h8]), (by simp [h9]), (by simpa [h5, h9, h6, h7, h8] using hS)⟩
    · have h6 : L 6 = false := by cases hh : L 6 with | false => rfl | true => (have hq := q6 hh; simp [hi] at hq)
      have h9 : L 9 = false := by cases hh : L 9 with | false => rfl | true => (have hq := q9 hh; simp [hi] at hq)
      have h7 : L 7 = false := by cases hh : L 7 with | false => rfl | true => (have hq := q7 hh; simp [h6] at hq)
      have h8 : L 8 = false := by cases hh : L 8 with | false => rfl | true => (have hq := q8 hh; simp [h7] at hq)
      obtain rfl := p4 (by simp [he])
      have f0 := HX2.out w' hS.1
      refine wpOp_step rfl (fun K hK => ?_)
      go_simp
      exact hK _ _ ⟨_, _, _, _, _, _, _, _, _, _, rfl, (by first | exact p0 | exact fun _ => rfl), (by first | exact p1 | exact fun _ => rfl), (by first | exact p3 | exact fun _ => rfl), (by first | exact p4 | exact fun _ => rfl), (fun _ => rfl), (by simp [h7]), (by simp [h8]), (by simp [h9]), (by simpa using q1), (by simpa using q2), (by simpa using q3), (by simp [he]), (by simp [h6]), (by simp [h7]), (by simp [h8]), (by simp [h9]), (by simpa [h6, h9, h7, h8] using hS)⟩
    · have h7 : L 7 = false := by cases hh : L 7 with | false => rfl | true => (have hq := q7 hh; simp [hi] at hq)
      have h9 : L 9 = false := by cases hh : L 9 with | false => rfl | true => (have hq := q9 hh; simp [hi] at hq)
      have h8 : L 8 = false := by cases hh : L 8 with | false => rfl | true => (have hq := q8 hh; simp [h7] at hq)
      obtain rfl := p5 (by simp [he])
      refine wpOp_step rfl (fun K hK => ?_)
      go_simp
      refine (CB.out w').mono ?_; rintro en w5 ⟨A5, c5, _, rfl, hs5⟩
      have hb5 := hs5.below
      exact hK _ _ ⟨_, _, _, _, _, _, _, _, _, _, rfl, (by first | exact p0 | exact fun _ => rfl), (by first | exact p1 | exact fun _ => rfl), (by first | exact p3 | exact fun _ => rfl), (by first | exact p4 | exact fun _ => rfl), (by first | exact p5 | exact fun _ => rfl), (by simp [h7]), (by simp [h8]), (by simp [h9]), (by simpa using q1), (by simpa using q2), (by simpa using q3), (by simpa using q5), (by simp [he]), (by simp [h7]), (by simp [h8]), (by simp [h9]), ⟨hS.1.later hb5, fun h => (hS.2.1 (by simpa using h)).later hb5, fun _ => ⟨A5, c5, rfl, hs5.rd 0 rfl⟩⟩⟩
    · have h8 : L 8 = false := by cases hh : L 8 with | false => rfl | true => (have hq := q8 hh; simp [hi] at hq)
      have h9 : L 9 = false := by cases hh : L 9 with | false => rfl | true => (have hq := q9 hh; simp [hi] at hq)
      obtain ⟨A4, c4, rfl, hr4⟩ := hS.2.2 (by simp [he])
      refine wpOp_step rfl (fun K hK => ?_)
      go_simp
      refine (CW2.out A4 c4 w' hr4).mono ?_; rintro en w5 ⟨rfl, hb5⟩
      exact hK _ _ ⟨_, _, _, _, _, _, _, _, _, _, rfl, (by first | exact p0 | exact fun _ => rfl), (by first | exact p1 | exact fun _ => rfl), (by first | exact p3 | exact fun _ => rfl), (by first | exact p4 | exact fun _ => rfl), (by first | exact p5 | exact fun _ => rfl), (fun _ => rfl), (by simp [h8]), (by simp [h9]), (by simpa using q1), (by simpa using q2), (by simpa using q3), (by simpa using q5), (by simpa using q6), (by simp [he]), (by simp [h8]), (by simp [h9]), ⟨hS.1.later hb5, fun h => (hS.2.1 (by simpa using h)).later hb5, fun h => (hS.2.2 (by simpa using h)).later hb5⟩⟩
    · have h9 : L 9 = false := by cases hh : L 9 with | false => rfl | true => (have hq := q9 hh; simp [hi] at hq)
      obtain rfl := p3 (by simp [he])
      refine wpOp_step rfl (fun K hK => ?_)
      go_simp
      exact hK _ _ ⟨_, _, _, _, _, _, _, _, _, _, rfl, (by first | exact p0 | exact fun _ => rfl), (by first | exact p1 | exact fun _ => rfl), (by first | exact p3 | exact fun _ => rfl), (by first | exact p4 | exact fun _ => rfl), (by first | exact p5 | exact fun _ => rfl), (by first | exact p7 | exact fun _ => rfl), (fun _ => rfl), (by simp [h9]), (by simpa using q1), (by simpa using q2), (by simpa using q3), (by simpa using q5), (by simpa using q6), (by simpa using q7), (by simp [he]), (by simp [h9]), (by simpa [h9] using hS)⟩
    · obtain rfl := p7 (by simp [he])
      refine wpOp_step rfl (fun K hK => ?_)
      go_simp
      exact hK _ _ ⟨_, _, _, _, _, _, _, _, _, _, rfl, (by first | exact p0 | exact fun _ => rfl), (by first | exact p1 | exact fun _ => rfl), (by first | exact p3 | exact fun _ => rfl), (by first | exact p4 | exact fun _ => rfl), (by first | exact p5 | exact fun _ => rfl), (by first | exact p7 | exact fun _ => rfl), (by first | exact p8 | exact fun _ => rfl), (fun _ => rfl), (by simpa using q1), (by simpa using q2), (by simpa using q3), (by simpa using q5), (by simpa using q6), (by simpa using q7), (by simpa using q8), (by simp [he]), (by simpa using hS)⟩
  · rintro L ac w' ⟨x7, x8, x19, x20, x21, x22, x23, x24, x25, x26, ha, p0, p1, p3, p4, p5, p7, p8, p9, q1, q2, q3, q5, q6, q7, q8, q9, hS⟩ hall
    have HS0 := Lib.hid hS.1
    obtain rfl := p0 (hall 0 (by decide))
    obtain rfl := p1 (hall 1 (by decide))
    obtain rfl := p3 (hall 3 (by decide))
    obtain rfl := p4 (hall 4 (by decide))
    obtain rfl := p5 (hall 5 (by decide))
    obtain rfl := p7 (hall 7 (by decide))
    obtain rfl := p8 (hall 8 (by decide))
    obtain rfl := p9 (hall 9 (by decide))
    simp only [turn, List.foldl_cons, List.foldl_nil, List.setIfInBounds_toArray, List.set_cons_succ, List.set_cons_zero] at ha
    subst ha
    clear q1 q2 q3 q5 q6 q7 q8 q9  
    clear hS
    rw [HLB.out] at HS0
    clear HSB HX1 HX2 HLB CA CB CW1 CW2
    have c0 := HS0.out.cell 0 rfl (k := 0) rfl
    have l1 := HS0.out.look2 1 rfl kstr K1.out Tryd.underlying47 (szr w')
    obtain ⟨iv, tb, hiv, htb⟩ : ∃ (iv : Int) (tb : Bool), (h (P p)).elim (.int .i64 0) (Value.int .i64) = .int .i64 iv ∧ (h (P p)).isSome = tb := by
      cases h (P p) with
      | none => exact ⟨0, _, rfl, rfl⟩
      | some z => exact ⟨z, _, rfl, rfl⟩
    rw [hiv, htb] at l1
    rw [tab_look HT.out CP.out] at hiv htb
    have HIV := Lib.hid hiv
    have HTB := Lib.hid htb
    obtain ⟨es, clock, M, H1⟩ := HS0.out.mapOpen 1 rfl
    obtain ⟨B, hB⟩ : ∃ B : List It, B = tC gt gm :: .obj gm (.map es clock) :: RT gf gb gr gt files (X ++ [oC gx kind x y]) := ⟨_, rfl⟩
    have H1' : Sep w0 w' B := by rw [hB]; exact H1
    have hB1 : B[1]? = some (.obj gm (.map es clock)) := by rw [hB]; rfl
    have hB3 : B[3]? = some (.cells gb 48 [bV]) := by rw [hB]; rfl
    obtain ⟨hrun, H2, todo0, R0, htl, hmem⟩ := H1'.rangeStart 1 hB1 M kstr Tryd.underlying47
    have HBK : Hid (∀ (w' : World) (Y : It), Sep w0 w' (B ++ [Y]) → Sep w0 w' (RS gt gm gf gb gr n h files (X ++ [oC gx kind x y]))) := Lib.hid (fun w' Y K => by
      have K2 := (K.sub (List.sublist_append_left B [Y])).mapShut 1 hB1 M
      rw [hB] at K2
      exact K2)
    have HC0 : Hid (Coll H p todo0 []) := Lib.hid (coll_start HT.out HI.out.clean hmem)
    have HS1 : Hid (Sep w0 (w'.alloc (.mapIter (some gm) clock #[] clock)) (B ++ [.obj w'.heap.size (.mapIter (some gm) clock #[] clock)])) := Lib.hid H2
    have HM := Lib.hid M
    have HR0 := Lib.hid R0
    have HB1 := Lib.hid hB1
    have HB3 := Lib.hid hB3
    have hBl : 3 < B.length := by rw [hB]; simp
    clear HS0 H1 H1' H2 M R0 hB hB1 hB3 hmem hiv htb
    go_wp2
    clear hrun c0 l1
    generalize w'.alloc (.mapIter (some gm) clock #[] clock) = wo at HS1 ⊢
    generalize w'.heap.size = r1 at HS1 ⊢
    go_loopg [11] todo0.length (fun g v wl => ∃ (todo : List ByteArray) (seen : Array Nat) (c0 kids : Nat) (ts : List (List By)), g = todo.length ∧ v = .int .i64 (kids : Int) ∧ Hid (ts.length = kids) ∧ Hid (Coll H p todo ts) ∧ Hid (Rg Value.string es clock clock seen c0 todo) ∧ kids + todo.length ≤ n ∧ Sep w0 wl (B ++ [.obj r1 (.mapIter (some gm) clock seen c0)]))
    case atStart => exact ⟨todo0, #[], clock, 0, [], rfl, rfl, Lib.hid rfl, HC0, HR0, by omega, HS1.out⟩
    case round =>
      clear HS1 HR0 HC0 wo htl
      obtain ⟨todo, seen, cc0, kids, ts, rfl, rfl, HTL, HCO, HRG, hkn, hs⟩ := hrel
      have HS := Lib.hid hs
      clear hs
      rcases HS.out.rangeNext2 1 B.length (by omega) (atI HB1.out) atL HM.out kstr HRG.out 0 with ⟨rfl, hrun⟩ | ⟨s, z, w2, seen', todo', hs, hsa, hrun, hsz2, H2, R2, hen, hlen, hme⟩
      · have HS2 : Hid (Sep w0 wr (RS gt gm gf gb gr n h files (X ++ [oC gx kind x y]))) := Lib.hid (HBK.out _ _ HS.out)
        clear HS HRG HM HBK HB1 HB3 hBl
        go_upto_region 9 with (fail)
        clear hrun
        have HS := HS2
        clear HS2
        have HSE : Hid (Sep w0 wr (RS gt gm gf gb gr n h files X)) := Lib.hid (RS_drop HS.out)
        have e0 := HS.out.cell _ RS_last (k := 0) rfl
        have cb := HS.out.cell 3 rfl (k := 0) rfl
        have cf := HS.out.cell 4 rfl (k := 0) rfl
        unfold bV at cb
        unfold fV at cf
        have hw := HW.out
        clear HW
        cases hw with
        | low h1 =>
          have h1' : kind < 1 := h1
          clear h1 cb cf
          go_wp2
          go_ret
          exact ⟨rfl, gm, n, h, V, files, by omega, by omega, HT.out, HV.out, HSE.out⟩
        | high h1 =>
          have h1' : kind > 5 := h1
          have h2' : ¬ kind < 1 := by omega
          clear h1 cb cf
          go_wp2
          go_ret
          exact ⟨rfl, gm, n, h, V, files, by omega, by omega, HT.out, HV.out, HSE.out⟩
        | newE h1 hf he =>
          have he' : (e != 0) = true := by simpa using he
          have cF := Lib.hid (rfresh_any w0 wr _ 0 1 gt gm n h V F nn files H p e HS.out rfl rfl HT.out HI.out HV.out hf CP.out LP.out)
          have h1' : kind = 1 ∨ kind = 2 := h1
          clear h1 hf he cb
          rcases h1' with rfl | rfl
          · go_wp2_with (go_at_fn 13; refine cF.out.mono ?_; rintro en w2 ⟨rfl, hb2⟩)
            go_ret
            exact ⟨rfl, gm, n, h, V, files, by omega, by omega, HT.out, HV.out, (HSE.out.later hb2)⟩
          · go_wp2_with (go_at_fn 13; refine cF.out.mono ?_; rintro en w2 ⟨rfl, hb2⟩)
            go_ret
            exact ⟨rfl, gm, n, h, V, files, by omega, by omega, HT.out, HV.out, (HSE.out.later hb2)⟩
        | new h1 hf =>
          have cF := Lib.hid (rfresh_any w0 wr _ 0 1 gt gm n h V F nn files H p 0 HS.out rfl rfl HT.out HI.out HV.out hf CP.out LP.out)
          have h1' : kind = 1 ∨ kind = 2 := h1
          have HLN : Hid (∀ (z : Int) l a, H l = some a → V a = if a = nn then z else V a) := Lib.hid (fun z l a ha => by
            rw [if_neg (by have := HI.out.low l a ha; omega)])
          clear h1 hf cb
          rcases h1' with rfl | rfl
          · go_upto_region 15 with (go_at_fn 13; refine cF.out.mono ?_; rintro en w2 ⟨rfl, hb2⟩)
            have HS2 := Lib.hid (HS.out.later hb2)
            have c0 := HS2.out.cell 0 rfl (k := 0) rfl
            obtain ⟨w5, st1, _, K5⟩ := HS2.out.store 1 rfl kstr K1.out Tryd.underlying47 (by simp only [maxLen]; omega) (0 : Int)
            clear e0 cf cF
            have HS5 := Lib.hid (show Sep w0 w5 (RS gt gm gf gb gr (if (h (P p)).isSome then n else n + 1) (mup h (P p) 0) files (X ++ [oC gx _ x y])) from K5)
            have f0 := HS5.out.cell _ RS_last (k := 0) rfl
            clear K5 hb2
            have HT5 : Hid (Tab (put H p nn) (fun a => if a = nn then 0 else V a) (mup h (P p) 0)) := Lib.hid (by
              have T2 := tab_put (tab_G HT.out (HLN.out 0)) CP.out nn
              simp only [if_true] at T2
              exact T2)
            go_wp2
            go_ret
            exact ⟨rfl, gm, _, _, _, files, by split <;> omega, by omega, HT5.out, rv_new HV.out, RS_drop HS5.out⟩
          · go_upto_region 15 with (go_at_fn 13; refine cF.out.mono ?_; rintro en w2 ⟨rfl, hb2⟩)
            have HS2 := Lib.hid (HS.out.later hb2)
            have c0 := HS2.out.cell 0 rfl (k := 0) rfl
            obtain ⟨w5, st1, _, K5⟩ := HS2.out.store 1 rfl kstr K1.out Tryd.underlying47 (by simp only [maxLen]; omega) (0 : Int)
            clear e0 cf cF
            have HS5 := Lib.hid (show Sep w0 w5 (RS gt gm gf gb gr (if (h (P p)).isSome then n else n + 1) (mup h (P p) 0) files (X ++ [oC gx _ x y])) from K5)
            have f0 := HS5.out.cell _ RS_last (k := 0) rfl
            clear K5 hb2
            have n0 := HS5.out.cell 2 rfl (k := 0) rfl
            have u0 := HS5.out.froz 2 rfl (k := 0)
            have hwm : wrap64 (files + 1) = files + 1 := by have := HV.out.low; unfold wrap64; omega
            have HS6 : Hid (Sep w0 (w5.setCell ⟨gf, 0, none⟩ (.int .i64 (files + 1))) (RS gt gm gf gb gr (if (h (P p)).isSome then n else n + 1) (mup h (P p) 0) (files + 1) (X ++ [oC gx 2 x y]))) := Lib.hid (HS5.out.set 2 rfl (k := 0) (.int .i64 (files + 1)))
            go_upto_region 18 with (fail)
            clear n0 u0 hwm HS5 f0
            generalize w5.setCell ⟨gf, 0, none⟩ (.int .i64 (files + 1)) = w6 at HS6 ⊢
            have n1 := HS6.out.cell 2 rfl (k := 0) rfl
            have c1 := HS6.out.cell 0 rfl (k := 0) rfl
            obtain ⟨w7, st2, _, K7⟩ := HS6.out.store 1 rfl kstr K1.out Tryd.underlying47 (by simp only [maxLen]; split <;> omega) (files + 1)
            have HS7 : Hid (Sep w0 w7 (RS gt gm gf gb gr (if (mup h (P p) 0 (P p)).isSome then (if (h (P p)).isSome then n else n + 1) else (if (h (P p)).isSome then n else n + 1) + 1) (mup (mup h (P p) 0) (P p) (files + 1)) (files + 1) (X ++ [oC gx 2 x y]))) := Lib.hid K7
            rw [mup_same, mup_mup] at HS7
            have HT5 : Hid (Tab (put H p nn) (fun a => if a = nn then files + 1 else V a) (mup h (P p) (files + 1))) := Lib.hid (by
              have T2 := tab_put (tab_G HT.out (HLN.out (files + 1))) CP.out nn
              simp only [if_true] at T2
              exact T2)
            clear K7
            go_wp2
            go_ret
            exact ⟨rfl, gm, _, _, _, files + 1, by simp only [Option.isSome_some, if_true]; split <;> omega, by omega, HT5.out, rv_file HV.out, RS_drop HS7.out⟩
        | none h1 h2 h3 =>
          have h1' : 3 ≤ kind := h1
          have h2' : kind ≤ 5 := h2
          have h3' : H p = none := h3
          rw [h3'] at HTB
          obtain rfl : tb = false := HTB.out.symm
          have j1 : ¬ kind < 1 := by omega
          have j2 : ¬ kind > 5 := by omega
          have j3 : (kind == 1) = false := by simp; omega
          have j4 : (kind == 2) = false := by simp; omega
          clear h1 h2 h3 h3' h1' h2' cb cf
          go_wp2
          go_ret
          exact ⟨rfl, gm, n, h, V, files, by omega, by omega, HT.out, HV.out, HSE.out⟩
        | @moveRoot a h1 hp h0 =>
          obtain rfl : kind = 4 := h1
          have hp' : H p = some a := hp
          rw [hp'] at HTB HIV
          obtain rfl : tb = true := HTB.out.symm
          have hiv2 : iv = V a := (Value.int.inj (show Value.int .i64 (V a) = .int .i64 iv from HIV.out)).2.symm
          clear hp'
          have h0' : p = [] := h0
          have z1 : ((P p).toList == [47]) = true := by rw [h0']; exact P_root
          clear hp h0 h0' cb cf
          go_wp2
          go_ret
          exact ⟨rfl, gm, n, h, V, files, by omega, by omega, HT.out, HV.out, HSE.out⟩
        | @moveSame a h1 hp h0 hq =>
          obtain rfl : kind = 4 := h1
          have hp' : H p = some a := hp
          rw [hp'] at HTB HIV
          obtain rfl : tb = true := HTB.out.symm
          have hiv2 : iv = V a := (Value.int.inj (show Value.int .i64 (V a) = .int .i64 iv from HIV.out)).2.symm
          clear hp'
          have z1 := P_notroot CP.out h0
          have hq' : q = p := hq
          have z2 : ((P p).toList == (P q).toList) = true := by rw [hq']; simp
          clear hp h0 hq hq' cb cf
          go_wp2
          go_ret
          exact ⟨rfl, gm, n, h, V, files, by omega, by omega, HT.out, HV.out, HSE.out⟩
        | @moveIn a h1 hp h0 hq hi =>
          obtain rfl : kind = 4 := h1
          have hp' : H p = some a := hp
          rw [hp'] at HTB HIV
          obtain rfl : tb = true := HTB.out.symm
          have hiv2 : iv = V a := (Value.int.inj (show Value.int .i64 (V a) = .int .i64 iv from HIV.out)).2.symm
          clear hp'
          have z1 := P_notroot CP.out h0
          have z2 : ((P p).toList == (P q).toList) = false := P_ne CQ.out CP.out (fun e => hq e.symm)
          have cB := Lib.hid (rbelow_any p q true (by simp; exact hi) CP.out CQ.out LP.out (by have := LQ.out; omega) wr)
          clear hp h0 hq hi cf
          go_wp2_with (go_at_fn 11; refine cB.out.mono ?_; rintro en w3 ⟨rfl, rfl⟩)
          go_ret
          exact ⟨rfl, gm, n, h, V, files, by omega, by omega, HT.out, HV.out, HSE.out⟩
        | @moveE a _ h1 hp h0 hq hi hf he =>
          obtain rfl : kind = 4 := h1
          have hp' : H p = some a := hp
          rw [hp'] at HTB HIV
          obtain rfl : tb = true := HTB.out.symm
          have hiv2 : iv = V a := (Value.int.inj (show Value.int .i64 (V a) = .int .i64 iv from HIV.out)).2.symm
          clear hp'
          have z1 := P_notroot CP.out h0
          have z2 : ((P p).toList == (P q).toList) = false := P_ne CQ.out CP.out (fun e => hq e.symm)
          have cB := Lib.hid (rbelow_any p q false (by simp; exact hi) CP.out CQ.out LP.out (by have := LQ.out; omega) wr)
          have he' : (e != 0) = true := by simpa using he
          have cF := Lib.hid (rfresh_any w0 wr _ 0 1 gt gm n h V F nn files H q e HS.out rfl rfl HT.out HI.out HV.out hf CQ.out LQ.out)
          clear hp h0 hq hi hf he
          go_upto_region 41 with (go_at_fn 11; refine cB.out.mono ?_; rintro en w3 ⟨rfl, rfl⟩)
          go_wp2_with (go_at_fn 13; refine cF.out.mono ?_; rintro en w2 ⟨rfl, hb2⟩)
          go_ret
          exact ⟨rfl, gm, n, h, V, files, by omega, by omega, HT.out, HV.out, (HSE.out.later hb2)⟩
        | @move a h1 hp h0 hq hi hf =>
          obtain rfl : kind = 4 := h1
          have hp' : H p = some a := hp
          rw [hp'] at HTB HIV
          obtain rfl : tb = true := HTB.out.symm
          have hiv2 : iv = V a := (Value.int.inj (show Value.int .i64 (V a) = .int .i64 iv from HIV.out)).2.symm
          clear hp'
          have z1 := P_notroot CP.out h0
          have z2 : ((P p).toList == (P q).toList) = false := P_ne CQ.out CP.out (fun e => hq e.symm)
          have cB := Lib.hid (rbelow_any p q false (by simp; exact hi) CP.out CQ.out LP.out (by have := LQ.out; omega) wr)
          have cF := Lib.hid (rfresh_any w0 wr _ 0 1 gt gm n h V F nn files H q 0 HS.out rfl rfl HT.out HI.out HV.out hf CQ.out LQ.out)
          have hq0 : H q = none := (fr_zero hf).1
          have hq00 : q ≠ [] := fun e => by obtain ⟨r, hr, _⟩ := HI.out.root; rw [e, hr] at hq0; cases hq0
          have HQ0 := Lib.hid hq0
          have HPN : Hid (p ≠ [] ∧ q ≠ []) := Lib.hid ⟨h0, hq00⟩
          have hmm := @run_makeMap Tryd.prog
          clear hp h0 hq hi hf hq0 hq00
          go_upto_region 41 with (go_at_fn 11; refine cB.out.mono ?_; rintro en w3 ⟨rfl, rfl⟩)
          clear cB
          go_upto_region 44 with (go_at_fn 13; refine cF.out.mono ?_; rintro en w2 ⟨rfl, hb2⟩)
          have HSm : Hid (Sep w0 (w2.alloc (.map #[] 0)) (RS gt gm gf gb gr n h files (X ++ [oC gx 4 x y]) ++ [rmap w2.heap.size 0 mno])) := Lib.hid ((HS.out.later hb2).newMap Tryd.prog 9 Value.string (Value.int .i64))
          clear cF hb2 e0 cb cf HS HSE
          go_upto_region 45 with (fail)
          clear hmm
          generalize w2.alloc (.map #[] 0) = wm at HSm ⊢
          generalize w2.heap.size = gn at HSm ⊢
          have c0 := HSm.out.cell 0 rfl (k := 0) rfl
          obtain ⟨es, clock, M, H1⟩ := HSm.out.mapOpen 1 rfl
          obtain ⟨B, hB⟩ : ∃ B : List It, B = tC gt gm :: .obj gm (.map es clock) :: RT gf gb gr gt files (X ++ [oC gx 4 x y]) := ⟨_, rfl⟩
          have H1' : Sep w0 wm (B ++ [rmap gn 0 mno]) := by rw [hB]; exact H1
          have hB1 : B[1]? = some (.obj gm (.map es clock)) := by rw [hB]; rfl
          have hB3 : B[3]? = some (.cells gb 48 [bV]) := by rw [hB]; rfl
          obtain ⟨hrun, H2, todo0, R0, htl, hmem⟩ := H1'.rangeStart 1 (atI hB1) M kstr Tryd.underlying47
          have HBK : Hid (∀ (w' : World) (Y Z : It), Sep w0 w' (B ++ [Y, Z]) → Sep w0 w' (RS gt gm gf gb gr n h files (X ++ [oC gx 4 x y]) ++ [Y])) := Lib.hid (fun w' Y Z K => by
            have K2 := (K.sub (List.Sublist.append_left (List.Sublist.cons_cons _ (List.nil_sublist _)) _ : (B ++ [Y]).Sublist (B ++ [Y, Z]))).mapShut 1 (atI hB1) M
            rw [hB] at K2
            exact K2)
          have HMV0 : Hid (MvTab H V p q todo0 mno) := Lib.hid (mvtab_start HT.out HI.out.clean hmem)
          have HS0 : Hid (Sep w0 (wm.alloc (.mapIter (some gm) clock #[] clock)) (B ++ [rmap gn 0 mno, .obj wm.heap.size (.mapIter (some gm) clock #[] clock)])) := Lib.hid (by
            have h := H2
            rw [List.append_assoc] at h
            exact h)
          have HM := Lib.hid M
          have HR0 := Lib.hid R0
          have HB1 := Lib.hid hB1
          have HB3 := Lib.hid hB3
          have hBl : 3 < B.length := by rw [hB]; simp
          clear HSm H1 H1' H2 M R0 hB hB1 hB3 hmem z1 z2
          go_wp2
          clear hrun c0
          generalize wm.alloc (.mapIter (some gm) clock #[] clock) = wo at HS0 ⊢
          generalize wm.heap.size = r2 at HS0 ⊢
          go_loopg [] todo0.length (fun g wl => ∃ (todo : List ByteArray) (seen : Array Nat) (c0 n' : Nat) (hn : ByteArray → Option Int), g = todo.length ∧ Hid (Rg Value.string es clock clock seen c0 todo) ∧ n' + todo.length ≤ n ∧ Hid (MvTab H V p q todo hn) ∧ Sep w0 wl (B ++ [rmap gn n' hn, .obj r2 (.mapIter (some gm) clock seen c0)]))
          case atStart => exact ⟨todo0, #[], clock, 0, mno, rfl, HR0, by omega, HMV0, HS0.out⟩
          case round =>
            clear HS0 HR0 HMV0 wo htl
            obtain ⟨todo, seen, cc0, n', hn, rfl, HRG, hnn, HMV, hs⟩ := hrel
            have HS := Lib.hid hs
            clear hs
            rcases HS.out.rangeNext2 1 (B.length + 1) (by omega) (atI HB1.out) at1 HM.out kstr HRG.out 0 with ⟨rfl, hrun⟩ | ⟨s, z, w7, seen', todo', hs, hsa, hrun, hsz2, H2, R2, hen, hlen, hme⟩
            · have HS3 : Hid (Sep w0 wr (RS gt gm gf gb gr n h files (X ++ [oC gx 4 x y]) ++ [rmap gn n' hn])) := Lib.hid (HBK.out _ _ _ HS.out)
              have HTE : Hid (Tab (mv H p q) V hn) := Lib.hid (mvtab_end HI.out HQ0.out CQ.out HMV.out)
              have c0 := HS3.out.cell 0 rfl (k := 0) rfl
              have u0 := HS3.out.froz 0 rfl (k := 0)
              have K5 := HS3.out.set 0 rfl (k := 0) (.map (some gn))
              have K6 : Sep w0 (wr.setCell ⟨gt, 0, none⟩ (.map (some gn))) (RS gt gn gf gb gr n' hn files (X ++ [oC gx 4 x y])) := (show Sep w0 _ ((tC gt gn :: rmap gm n h :: RT gf gb gr gt files (X ++ [oC gx 4 x y])) ++ [rmap gn n' hn]) from K5).swapAt 1 (by simp)
              have HS6 := Lib.hid (RS_drop K6)
              clear HS HRG HM HBK HB1 HB3 hBl HMV K5 K6 HS3
              go_wp2
              go_ret
              exact ⟨rfl, gn, n', hn, V, files, by omega, by omega, HTE.out, HV.out, HS6.out⟩
            · obtain ⟨l, a', hlc, hla, rfl, rfl⟩ := tab_key HT.out hsa
              rw [set1] at H2
              have cb := H2.cell 3 (atI HB3.out) (k := 0) rfl
              unfold bV at cb
              have hml : (ppath l).length ≤ 9223372036854775800 := by have := HK.out _ _ hla; omega
              have HMN : Hid (MvTab H V p q todo' (mup hn (P (tr p q l)) (V a'))) := Lib.hid (mvtab_next HI.out HQ0.out CQ.out HMV.out hla hs hme)
              have HR2 := Lib.hid R2
              have kl : (P l).size ≤ K := HK.out _ _ hla
              by_cases hpl : p <+: l
              · have cB := Lib.hid (rbelow_any p l true (by simp [hpl]) CP.out hlc LP.out hml w7)
                obtain ⟨t, rfl⟩ := hpl
                rw [tr_in] at HMN
                obtain ⟨Y, hY⟩ : ∃ Y, Y = kb ((ppath (p ++ t)).drop (ppath p).length) := ⟨_, rfl⟩
                have HE : P q ++ Y = P (q ++ t) := by
                  rw [hY]
                  exact (bs_cat _ _).trans (congrArg kb (turn_text HPN.out.1 HPN.out.2))
                have hYs : Y.size ≤ K := by
                  rw [hY]
                  have := HK.out _ _ hla
                  show (List.drop _ _).length ≤ K
                  rw [List.length_drop]
                  omega
                have hqs : (P q).size ≤ 1048577 := LQ.out
                have hsl : ∀ W, (Instr.slice 9 (.string (P (p ++ t))) (some (.int .i64 ((P p).size : Int))) none none).run Tryd.prog W = .ok (.string Y) W := fun W => by
                  rw [hY]
                  exact cut_path HPN.out.1 W
                have hz : (P q).size + Y.size ≤ 9223372036854775807 := by omega
                obtain ⟨w8, st, K8⟩ : ∃ w8, (Instr.mapUpdate 47 (.map (some gn)) (.string (P q ++ Y)) (.int .i64 (V a'))).run Tryd.prog w7 = .ok () w8 ∧ Sep w0 w8 (B ++ [rmap gn (if (hn (P (q ++ t))).isSome then n' else n' + 1) (mup hn (P (q ++ t)) (V a')), .obj r2 (.mapIter (some gm) clock seen' clock)]) := by
                  have hk : (P (q ++ t)).size ≤ maxLen := by rw [← HE, ByteArray.size_append]; simp only [maxLen]; omega
                  obtain ⟨w8, st, _, K8⟩ := H2.store B.length at0 kstr hk Tryd.underlying47 (by simp only [maxLen]; omega) (V a')
                  rw [set0] at K8
                  rw [HE]
                  exact ⟨w8, st, K8⟩
                have HS8 := Lib.hid K8
                clear H2 R2 HS HRG hsz2 K8 hs hsa hme hlc hla hml kl hY HE hYs hqs HMV
                go_upto_region 49 with (go_at_fn 11; refine cB.out.mono ?_; rintro en w9 ⟨rfl, rfl⟩)
                go_wp2
                go_roundg todo'.length
                case measure => omega
                case rel => exact ⟨todo', seen', clock, _, _, rfl, HR2, by split <;> omega, HMN, HS8.out⟩
              · have cB := Lib.hid (rbelow_any p l false (by simp [hpl]) CP.out hlc LP.out hml w7)
                rw [tr_out hpl] at HMN
                obtain ⟨w8, st, _, K8⟩ := H2.store B.length at0 kstr (x := P l) (by simp only [maxLen]; omega) Tryd.underlying47 (by simp only [maxLen]; omega) (V a')
                rw [set0] at K8
                have HS8 := Lib.hid K8
                clear H2 R2 HS HRG hsz2 K8 hs hsa hme hlc hla hml kl hpl HMV
                go_wp2_with (go_at_fn 11; refine cB.out.mono ?_; rintro en w9 ⟨rfl, rfl⟩)
                go_roundg todo'.length
                case measure => omega
                case rel => exact ⟨todo', seen', clock, _, _, rfl, HR2, by split <;> omega, HMN, HS8.out⟩
        | @linkF a h1 hp hF =>
          obtain rfl : kind = 5 := h1
          have hp' : H p = some a := hp
          rw [hp'] at HTB HIV
          obtain rfl : tb = true := HTB.out.symm
          have hiv2 : iv = V a := (Value.int.inj (show Value.int .i64 (V a) = .int .i64 iv from HIV.out)).2.symm
          clear hp'
          obtain rfl : iv = 0 := by rw [hiv2]; exact HV.out.fold a (HI.out.low _ _ hp) hF
          clear hp hF hiv2 cb cf
          go_wp2
          go_ret
          exact ⟨rfl, gm, n, h, V, files, by omega, by omega, HT.out, HV.out, HSE.out⟩
        | @linkE a _ h1 hp hF hf he =>
          obtain rfl : kind = 5 := h1
          have hp' : H p = some a := hp
          rw [hp'] at HTB HIV
          obtain rfl : tb = true := HTB.out.symm
          have hiv2 : iv = V a := (Value.int.inj (show Value.int .i64 (V a) = .int .i64 iv from HIV.out)).2.symm
          clear hp'
          have hi0 : (iv == 0) = false := by have := HV.out.pos a (HI.out.low _ _ hp) hF; simp; omega
          have he' : (e != 0) = true := by simpa using he
          have cF := Lib.hid (rfresh_any w0 wr _ 0 1 gt gm n h V F nn files H q e HS.out rfl rfl HT.out HI.out HV.out hf CQ.out LQ.out)
          clear hp hF hf he hiv2 cb
          go_wp2_with (go_at_fn 13; refine cF.out.mono ?_; rintro en w2 ⟨rfl, hb2⟩)
          go_ret
          exact ⟨rfl, gm, n, h, V, files, by omega, by omega, HT.out, HV.out, (HSE.out.later hb2)⟩
        | @link a h1 hp hF hf =>
          obtain rfl : kind = 5 := h1
          have hp' : H p = some a := hp
          rw [hp'] at HTB HIV
          obtain rfl : tb = true := HTB.out.symm
          have hiv2 : iv = V a := (Value.int.inj (show Value.int .i64 (V a) = .int .i64 iv from HIV.out)).2.symm
          clear hp'
          have hi0 : (iv == 0) = false := by have := HV.out.pos a (HI.out.low _ _ hp) hF; simp; omega
          have cF := Lib.hid (rfresh_any w0 wr _ 0 1 gt gm n h V F nn files H q 0 HS.out rfl rfl HT.out HI.out HV.out hf CQ.out LQ.out)
          have HIV2 := Lib.hid hiv2
          clear hp hF hf hiv2 cb
          go_upto_region 28 with (go_at_fn 13; refine cF.out.mono ?_; rintro en w2 ⟨rfl, hb2⟩)
          have HS2 := Lib.hid (HS.out.later hb2)
          have c0 := HS2.out.cell 0 rfl (k := 0) rfl
          obtain ⟨w5, st1, _, K5⟩ := HS2.out.store 1 rfl kstr K2.out Tryd.underlying47 (by simp only [maxLen]; omega) iv
          have HS5 : Hid (Sep w0 w5 (RS gt gm gf gb gr (if (h (P q)).isSome then n else n + 1) (mup h (P q) iv) files (X ++ [oC gx 5 x y]))) := Lib.hid K5
          have HT5 : Hid (Tab (put H q a) V (mup h (P q) iv)) := Lib.hid (by rw [HIV2.out]; exact tab_put HT.out CQ.out a)
          clear hb2 cF K5 e0 cf
          go_wp2
          go_ret
          exact ⟨rfl, gm, _, _, V, files, by split <;> omega, by omega, HT5.out, HV.out, RS_drop HS5.out⟩
        | @remRoot a h1 hp h0 =>
          obtain rfl : kind = 3 := h1
          have hp' : H p = some a := hp
          rw [hp'] at HTB HIV
          obtain rfl : tb = true := HTB.out.symm
          have hiv2 : iv = V a := (Value.int.inj (show Value.int .i64 (V a) = .int .i64 iv from HIV.out)).2.symm
          clear hp'
          have h0' : p = [] := h0
          have z1 : ((P p).toList == [47]) = true := by rw [h0']; exact P_root
          clear hp h0 h0' cb cf
          go_wp2
          go_ret
          exact ⟨rfl, gm, n, h, V, files, by omega, by omega, HT.out, HV.out, HSE.out⟩
        | @remHeld a h1 hp h0 t ht hk =>
          obtain rfl : kind = 3 := h1
          have hp' : H p = some a := hp
          rw [hp'] at HTB HIV
          obtain rfl : tb = true := HTB.out.symm
          have hiv2 : iv = V a := (Value.int.inj (show Value.int .i64 (V a) = .int .i64 iv from HIV.out)).2.symm
          clear hp'
          have z1 := P_notroot CP.out h0
          have k0 : (kids : Int) > 0 := by
            have h3 := List.length_pos_of_mem ((HCO.out.2 t).2 ⟨ht, hk, List.not_mem_nil⟩)
            have := HTL.out
            omega
          clear hp h0 ht hk cb cf
          go_wp2
          go_ret
          exact ⟨rfl, gm, n, h, V, files, by omega, by omega, HT.out, HV.out, HSE.out⟩
        | @rem a h1 hp h0 hno =>
          obtain rfl : kind = 3 := h1
          have hp' : H p = some a := hp
          rw [hp'] at HTB HIV
          obtain rfl : tb = true := HTB.out.symm
          have hiv2 : iv = V a := (Value.int.inj (show Value.int .i64 (V a) = .int .i64 iv from HIV.out)).2.symm
          clear hp'
          have z1 := P_notroot CP.out h0
          have k0 : ¬ (kids : Int) > 0 := by
            have h3 : ts = [] := List.eq_nil_iff_forall_not_mem.2 fun t ht => by
              obtain ⟨h4, h5, _⟩ := (HCO.out.2 t).1 ht
              rw [show H (p ++ t) = none from hno t h4] at h5
              cases h5
            have h4 := HTL.out
            rw [h3] at h4
            simp at h4
            omega
          have c0 := HS.out.cell 0 rfl (k := 0) rfl
          obtain ⟨w5, hdr, _, K5⟩ := HS.out.drop 1 rfl kstr K1.out Tryd.underlying47
          have HS5 : Hid (Sep w0 w5 (RS gt gm gf gb gr (if (h (P p)).isSome then n - 1 else n) (mdel h (P p)) files (X ++ [oC gx 3 x y]))) := Lib.hid K5
          have HT5 := Lib.hid (tab_del HT.out CP.out)
          clear hp h0 hno cb cf K5
          go_wp2
          go_ret
          exact ⟨rfl, gm, _, _, V, files, by split <;> omega, by omega, HT5.out, HV.out, RS_drop HS5.out⟩
      · obtain ⟨mm, a', hmc, hma, rfl, rfl⟩ := tab_key HT.out hsa
        have cb := H2.cell 3 (by rw [List.getElem?_set_ne (by omega)]; exact atI HB3.out) (k := 0) rfl
        unfold bV at cb
        rw [show (B ++ [It.obj r1 (.mapIter (some gm) clock seen cc0)]).set B.length (.obj r1 (.mapIter (some gm) clock seen' clock)) = B ++ [.obj r1 (.mapIter (some gm) clock seen' clock)] by simp] at H2
        have HS2 := Lib.hid H2
        have HR2 := Lib.hid R2
        have hml : (ppath mm).length ≤ 9223372036854775800 := by have := HK.out _ _ hma; omega
        clear H2 R2 HS HRG hsz2
        by_cases hmp : mm = p
        · have HC2 : Hid (Coll H p todo' ts) := Lib.hid (coll_skip HI.out.clean HCO.out hmc (fun ⟨t, h1, h2⟩ => h1 (by rw [hmp] at h2; simpa using h2)) hme)
          have heb : ((P mm).toList == (P p).toList) = true := by rw [hmp]; simp
          clear hs hsa hme hmc hma hmp hml cb
          go_wp2
          go_roundg todo'.length
          case measure => omega
          case rel => exact ⟨todo', seen', clock, kids, ts, rfl, rfl, HTL, HC2, HR2, by omega, HS2.out⟩
        · have heb : ((P mm).toList == (P p).toList) = false := P_ne CP.out hmc hmp
          by_cases hpm : p <+: mm
          · have cB := Lib.hid (rbelow_any p mm true (by simp [hpm]) CP.out hmc LP.out hml w2)
            obtain ⟨t, rfl⟩ := hpm
            have ht : t ≠ [] := fun e => hmp (by rw [e]; simp)
            have HC2 : Hid (Coll H p todo' (ts ++ [t])) := Lib.hid (coll_add HI.out.clean HCO.out ht hma hs hme)
            have HTL2 : Hid ((ts ++ [t]).length = kids + 1) := Lib.hid (by rw [List.length_append, HTL.out]; rfl)
            clear hs hsa hme hmc hma hmp hml ht
            go_upto_region 7 with (fail)
            go_wp2_with (go_at_fn 11; refine cB.out.mono ?_; rintro en w3 ⟨rfl, rfl⟩)
            go_roundg todo'.length
            case measure => omega
            case rel => exact ⟨todo', seen', clock, kids + 1, ts ++ [t], rfl, by go_num, HTL2, HC2, HR2, by omega, HS2.out⟩
          · have cB := Lib.hid (rbelow_any p mm false (by simp [hpm]) CP.out hmc LP.out hml w2)
            have HC2 : Hid (Coll H p todo' ts) := Lib.hid (coll_skip HI.out.clean HCO.out hmc (fun ⟨t, h1, h2⟩ => hpm ⟨t, h2.symm⟩) hme)
            clear hs hsa hme hmc hma hmp hml hpm
            go_upto_region 7 with (fail)
            go_wp2_with (go_at_fn 11; refine cB.out.mono ?_; rintro en w3 ⟨rfl, rfl⟩)
            go_roundg todo'.length
            case measure => omega
            case rel => exact ⟨todo', seen', clock, kids, ts, rfl, rfl, HTL, HC2, HR2, by omega, HS2.out⟩
end Tr
end Go.Proofs.YtgidkaidljiddaaDoor
