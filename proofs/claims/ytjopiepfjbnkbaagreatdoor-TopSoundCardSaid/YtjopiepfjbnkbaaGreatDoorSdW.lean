/-
  Walk of the law TopSound. Conditions: none beyond each theorem's own premises.
-/
import Derived.Test.YtjopiepfjbnkbaaGreatDoorSdMC
import Derived.Test.YtjopiepfjbnkbaaGreatDoorRpW2
import Derived.Test.YtjopiepfjbnkbaaGreatDoorFkS
import Derived.Test.YtjopiepfjbnkbaaGreatDoorFsB
import Derived.Test.YtjopiepfjbnkbaaGreatDoorBnTa
namespace Go.Proofs.YtjopiepfjbnkbaaGreatDoor
open Go.RowKit Go.Shelf Go.Sort
set_option linter.unusedVariables false
namespace Sd
open _root_.Go.Proofs.YtjopiepfjbnkbaaGreatDoor.Bn (Gl)

def tupA : Value → Value
  | .tuple cs => cs.getD 0 undef
  | _ => undef
def tupB : Value → Value
  | .tuple cs => cs.getD 1 undef
  | _ => undef
theorem tupA_mk (a b : Value) : tupA (.tuple #[a, b]) = a := rfl
theorem tupB_mk (a b : Value) : tupB (.tuple #[a, b]) = b := rfl
theorem i64_and3 (n : Int) : bits .and .i64 n 3 = n % 4 := by
  have h1 : (BitVec.ofInt 64 3).toNat = 2 ^ 2 - 1 := by decide
  have key : (BitVec.ofInt 64 n &&& BitVec.ofInt 64 3).toNat = (n % ((2 ^ 64 : Nat) : Int)).toNat % 2 ^ 2 := by
    rw [BitVec.toNat_and, BitVec.toNat_ofInt, h1, Nat.and_two_pow_sub_one_eq_mod]
  show IntKind.i64.wrap ((BitVec.ofInt 64 n &&& BitVec.ofInt 64 3).toNat : Nat) = n % 4
  rw [key, IntKind.wrap_i64]
  omega
theorem and3 (n : Int) : ∃ f : Nat, f < 4 ∧ bits .and .i64 n 3 = (f : Int) := ⟨(n % 4).toNat, by omega, by rw [i64_and3]; omega⟩
theorem sop_info : (Tryz.prog.info? 48).map (fun i => (i.zero, i.size, i.bytes)) = some (some (.agg #[.int .i64 0, .int .i64 0, .int .i64 0]), 3, 24) := by kernel_rfl
theorem int_info : (Tryz.prog.info? 3).map (fun i => (i.zero, i.size, i.bytes)) = some (some (.int .i64 0), 1, 8) := by kernel_rfl
theorem claim_info : (Tryz.prog.info? 63).map (fun i => (i.zero, i.size, i.bytes)) = some (some (.agg #[.int .i64 0, .slice none 0 0]), 2, 32) := by kernel_rfl
theorem kint : KMk Tryz.prog 3 (Value.int .i64) (fun x => (Lit.int .i64 x).wf = true) := kmk_int Tryz.underlying3
theorem iz (w : World) : (zeroValue 3).run Tryz.prog w = .ok (.int .i64 0) w := by kernel_rfl
theorem rz (w : World) : (zeroValue 56).run Tryz.prog w = .ok (.slice none 0 0) w := by kernel_rfl
theorem wf4 {f : Nat} (h : f < 4) : (Lit.int .i64 (f : Int)).wf = true := WalkArith.wf_i64 (by omega)

/-- what is asked of the room -/
def kd (a : Int) : Int := if Int.tmod a 2 = 0 then 2 else 1
def opOf (x : Sp.G) : Sp.O := ⟨kd x.at_, 0, x.many⟩
theorem kd_or (a : Int) : kd a = 1 ∨ kd a = 2 := by unfold kd; split <;> simp
abbrev aR (A : Option Addr) (n c : Nat) (l : List Sp.An) : It := .row 55 2 (.slice A n c) n (l.flatMap Sp.An.cells)
abbrev gR (A : Option Addr) (n c : Nat) (l : List Sp.N) : It := .row 46 2 (.slice A n c) n (l.flatMap Sp.ncells)
def mF (g n : Nat) (h : Int → Option Value) : It := .map Tryz.prog 3 (Value.int .i64) id g n h
def mE (g n : Nat) (h : Int → Option Nat) : It := .map Tryz.prog 3 (Value.int .i64) Fk.cE g n h
def rR (fA : Nat → Option Addr) (fl : Nat → List Runs.R) (fc : Nat → Nat) (f : Nat) : It := .row 60 3 (.slice (fA f) (fl f).length (fc f)) (fl f).length ((fl f).flatMap Runs.R.cells)
def LL (A1 : Option Addr) (n c1 : Nat) (an : List Sp.An) (A2 : Option Addr) (nL c2 : Nat) (L : List Sp.N) (gF nF : Nat) (hF : Int → Option Value) (gE nE : Nat) (hE : Int → Option Nat) (fA : Nat → Option Addr) (fl : Nat → List Runs.R) (fc : Nat → Nat) : List It :=
  [aR A1 n c1 an, gR A2 nL c2 L, mF gF nF hF, mE gE nE hE, rR fA fl fc 0, rR fA fl fc 1, rR fA fl fc 2, rR fA fl fc 3]
theorem ll_row {w0 w : World} {A1 : Option Addr} {n c1 : Nat} {an : List Sp.An} {A2 : Option Addr} {nL c2 : Nat} {L : List Sp.N} {gF nF : Nat} {hF : Int → Option Value} {gE nE : Nat} {hE : Int → Option Nat} {fA : Nat → Option Addr} {fl : Nat → List Runs.R} {fc : Nat → Nat} {M : List It} (H : Sep w0 w (LL A1 n c1 an A2 nL c2 L gF nF hF gE nE hE fA fl fc ++ M)) {f : Nat} (hf : f < 4) :
    Rd w w.heap.size 3 (fA f) (fl f).length ((fl f).flatMap Runs.R.cells) ∧ (fl f).length ≤ fc f := by
  have key : ∀ i, (LL A1 n c1 an A2 nL c2 L gF nF hF gE nE hE fA fl fc ++ M)[i]? = some (rR fA fl fc f) → Rd w w.heap.size 3 (fA f) (fl f).length ((fl f).flatMap Runs.R.cells) ∧ (fl f).length ≤ fc f := fun i hi => by
    refine ⟨H.rd i hi, ?_⟩
    obtain ⟨A', c', e, h⟩ := (H.rowHas i hi).slice
    cases e
    exact h
  have h : f = 0 ∨ f = 1 ∨ f = 2 ∨ f = 3 := by omega
  rcases h with rfl | rfl | rfl | rfl
  · exact key 4 rfl
  · exact key 5 rfl
  · exact key 6 rfl
  · exact key 7 rfl
def up {α : Type} (g : Nat → α) (f : Nat) (x : α) : Nat → α := fun i => if i = f then x else g i
theorem up_same {α : Type} (g : Nat → α) (f : Nat) (x : α) : up g f x f = x := if_pos rfl
theorem up_other {α : Type} (g : Nat → α) {f i : Nat} (x : α) (h : i ≠ f) : up g f x i = g i := if_neg h
/-- one file's runs are laid anew -/
theorem ll_up {w0 w : World} {A1 : Option Addr} {n c1 : Nat} {an : List Sp.An} {A2 : Option Addr} {nL c2 : Nat} {L : List Sp.N} {gF nF : Nat} {hF : Int → Option Value} {gE nE : Nat} {hE : Int → Option Nat} {fA : Nat → Option Addr} {fl : Nat → List Runs.R} {fc : Nat → Nat} {X : It} {A' : Option Addr} {c' : Nat} {cl : List Runs.R}
    (H : Sep w0 w ((LL A1 n c1 an A2 nL c2 L gF nF hF gE nE hE fA fl fc ++ [X]) ++ [.row 60 3 (.slice A' cl.length c') cl.length (cl.flatMap Runs.R.cells)])) {f : Nat} (hf : f < 4) :
    Sep w0 w (LL A1 n c1 an A2 nL c2 L gF nF hF gE nE hE (up fA f A') (up fl f cl) (up fc f c') ++ [X]) := by
  have h : f = 0 ∨ f = 1 ∨ f = 2 ∨ f = 3 := by omega
  rcases h with rfl | rfl | rfl | rfl
  · exact H.pick [0, 1, 2, 3, 9, 5, 6, 7, 8] (by decide) (by simp [LL])
  · exact H.pick [0, 1, 2, 3, 4, 9, 6, 7, 8] (by decide) (by simp [LL])
  · exact H.pick [0, 1, 2, 3, 4, 5, 9, 7, 8] (by decide) (by simp [LL])
  · exact H.pick [0, 1, 2, 3, 4, 5, 6, 9, 8] (by decide) (by simp [LL])
theorem nf_len {B : Int} : ∀ (l : List Runs.R) (p : Option Runs.R) (lo : Int), Runs.NF p l → (∀ r t, l = r :: t → lo ≤ r.at_) → (∀ q ∈ l, q.at_ + q.many ≤ B) → lo ≤ B → (l.length : Int) ≤ B - lo
  | [], _, lo, _, _, _, h => by simp; omega
  | r :: t, p, lo, hnf, hlo, hB, h => by
    obtain ⟨h1, _, h3⟩ := hnf
    have h4 := hlo r t rfl
    have h5 := hB r (by simp)
    have ih := nf_len t (some r) (r.at_ + r.many) h3 (fun r2 t2 e => by
      subst e
      exact (h3.2.1 r rfl).1) (fun q hq => hB q (by simp [hq])) h5
    rw [List.length_cons]
    omega
theorem put_c {l : List Runs.R} {b : List Nat} (h : FI l b) (A : Option Addr) (c a m : Nat) (hm : 1 ≤ m) (hlen : b.length + m ≤ 4096) (ha : a + m ≤ 4096) (hb : ∀ d ∈ b, d ≤ 4096) (w : World) (hr : Rd w w.heap.size 3 A l.length (l.flatMap Runs.R.cells)) :
    Calls Tryz.prog 10 #[.slice A l.length c, .agg #[.int .i64 (b.length : Int), .int .i64 (a : Int), .int .i64 (m : Int)]] w (fun e w' => ∃ A' c' cl, FI cl (b ++ List.range' a m) ∧ e = .returned (.tuple #[.slice A' cl.length c', .int .i64 0]) ∧ Sep w w' [.row 60 3 (.slice A' cl.length c') cl.length (cl.flatMap Runs.R.cells)]) := by
  have hl := nf_len (B := 4096) l none 0 h.nf (fun r t e => (h.ed r (by rw [e]; simp)).1) (fun q hq => by have := (h.ed q hq).2; omega) (by omega)
  have hone : Runs.oneB ⟨(b.length : Int), (a : Int), (m : Int)⟩ = true := one_of ⟨by simp, by simp; omega, by simp; omega, by simp, by simp; omega⟩
  refine (Runs.put_any A l.length c l _ _ _ w hr rfl (by omega) h.ok hone h.nf).mono ?_
  rintro e w' ⟨cl, hp, A', c', _, he, hs⟩
  have hfi := fi_put h hm hlen ha hb hp
  rw [if_pos hfi.ok] at he hs
  rw [if_pos hfi.ok] at he
  exact ⟨A', c', cl, hfi, he, hs⟩

def FAf (fb : Nat → List Nat) (f : Nat) : List Int := ((List.range f).flatMap fb).map fun (x : Nat) => (x : Int)
theorem FAf_succ (fb : Nat → List Nat) (f : Nat) : FAf fb (f + 1) = FAf fb f ++ (fb f).map fun (x : Nat) => (x : Int) := by
  unfold FAf
  rw [List.range_succ, List.flatMap_append, List.map_append]
  simp
theorem FAf_all (fb : Nat → List Nat) : FAf fb 4 = FA fb := by
  unfold FAf FA allB
  congr 1
  simp [List.range_succ]
theorem perm_in (A C : List It) (x y : It) : (A ++ (x :: y :: C)).Perm ((A ++ C) ++ [x] ++ [y]) := by
  rw [List.append_assoc, List.append_assoc]
  exact List.Perm.append_left A (List.perm_append_comm (l₁ := [x, y]) (l₂ := C))

set_option maxRecDepth 100000 in
set_option maxHeartbeats 12800000 in
theorem topSound_walk (sz : Int) (Ad : Option Addr) (n c : Nat) (ws : List Sp.G) (w : World) (hr : Rd w w.heap.size 2 Ad n (ws.flatMap Sp.G.cells)) (hl : ws.length = n) (hn : n ≤ 9223372036854775807) (hg : Gl w) :
    Calls Tryz.prog 4 #[.int .i64 sz, .slice Ad n c] w (Ret w (.bool true)) := by
  obtain ⟨ti, hti, t0, t1, t2⟩ := info_parts sop_info
  obtain ⟨tj, htj, j0, j1, j2⟩ := info_parts int_info
  obtain ⟨tk, htk, k0, k1, k2⟩ := info_parts claim_info
  have cA := Lib.hid (So.alive_any w hg)
  by_cases hout : 1 ≤ sz ∧ sz ≤ 200 ∧ n ≤ 60
  · obtain ⟨hz1, hz2, hn6⟩ := hout
    obtain ⟨S, rfl⟩ : ∃ S : Nat, sz = (S : Int) := ⟨sz.toNat, by omega⟩
    have hS1 : 1 ≤ S := by omega
    have hS2 : S ≤ 200 := by omega
    obtain ⟨os, hos⟩ : ∃ os, ws.map opOf = os := ⟨_, rfl⟩
    have hol : os.length = n := by rw [← hos, List.length_map, hl]
    have hpl := Sp.play_len os (Sp.whole S) (Sp.whole_ok S)
    have cP := Lib.hid (fun A5 c5 W (h : Rd W W.heap.size 3 A5 n (os.flatMap Sp.O.cells)) => Sp.play_any A5 n c5 S os W h hol (by omega) (by omega))
    obtain ⟨⟨an, L⟩, hpp⟩ : ∃ p, Sp.play S os (Sp.whole S) = p := ⟨_, rfl⟩
    rw [hpp] at cP hpl
    unfold Sp.PlayRet at cP
    simp only at cP hpl
    rw [hol] at hpl
    have hal := hpl.1
    have hLl := hpl.2
    rw [hal] at cP
    obtain ⟨nL, hnL⟩ : ∃ nL, L.length = nL := ⟨_, rfl⟩
    rw [hnL] at cP hLl
    have HR := Lib.hid hr
    have HL := Lib.hid hl
    have HOS := Lib.hid hos
    have HOL := Lib.hid hol
    have HAL := Lib.hid hal
    have HNL := Lib.hid hnL
    have HPP := Lib.hid hpp
    have i0 : ¬ (S : Int) < 1 := by omega
    have i1 : ¬ (200 : Int) < (S : Int) := by omega
    have i2 : ¬ (60 : Int) < (n : Int) := by omega
    clear hr hg hl hn hz1 hz2 hos hol hpl hpp hal hnL
    go_enter Tryz.func4, Tryz.ntmps4
    go_wp2_with fail
    refine cA.out.mono ?_; rintro en w1 ⟨rfl, hb1⟩
    have H1 := Lib.hid (((Sep.nil_ w).later hb1).nilRow 48 3 none)
    clear hb1 cA
    go_wp2
    go_loopg [5, 44] n (fun g v5 i wr => ∃ (k : Nat) (A5 : Option Addr) (c5 : Nat), k ≤ n ∧ g = n - k ∧ i = .int .i64 (k : Int) ∧ v5 = .slice A5 k c5 ∧ Sep w wr [.row 48 3 (.slice A5 k c5) k ((os.take k).flatMap Sp.O.cells)])
    case atStart => exact ⟨0, none, 0, Nat.zero_le _, rfl, rfl, rfl, H1.out⟩
    case round =>
      clear H1
      obtain ⟨k, A5, c5, hk, rfl, rfl, rfl, hs⟩ := hrel
      have HS := Lib.hid hs
      clear hs
      by_cases hlt : k < n
      · have i3 : (0 : Int) ≤ (k : Int) := by omega
        have i4 : (k : Int) < (n : Int) := by omega
        obtain ⟨⟨wa, wm⟩, ho⟩ : ∃ o, ws[k]? = some o := ⟨_, List.getElem?_eq_getElem (by rw [HL.out]; exact hlt)⟩
        obtain ⟨b, off, rfl, hb, hc⟩ := HR.out.at_ Sp.G.len (by omega)
        have hbel : Below w.heap.size w wr := HS.out.below
        have q0 : wr.cell? ⟨b, off + k * 2, none⟩ = some (.int .i64 wa) := (hbel.cell (p := ⟨b, off + k * 2, none⟩) hb).trans (hc k 0 _ _ ho rfl)
        have q1 : wr.cell? ⟨b, off + k * 2 + 1, none⟩ = some (.int .i64 wm) := (hbel.cell (p := ⟨b, off + k * 2 + 1, none⟩) hb).trans (hc k 1 _ _ ho rfl)
        have HTK : Hid ((os.take (k + 1)).flatMap Sp.O.cells = (os.take k).flatMap Sp.O.cells ++ [.int .i64 (kd wa), .int .i64 0, .int .i64 wm]) := Lib.hid (by
          have h9 : os[k]? = some (opOf ⟨wa, wm⟩) := by rw [← HOS.out, List.getElem?_map, ho]; rfl
          rw [List.take_add_one, h9, List.flatMap_append]
          rfl)
        have HS2 : Hid (Sep w (wr.alloc (.cells #[.int .i64 wa, .int .i64 wm] 46)) [.row 48 3 (.slice A5 k c5) k ((os.take k).flatMap Sp.O.cells), .cells wr.heap.size 46 [.int .i64 wa, .int .i64 wm]]) := Lib.hid (HS.out.new 46 [.int .i64 wa, .int .i64 wm])
        obtain ⟨r, hrr⟩ : ∃ r, Int.tmod wa 2 = r := ⟨_, rfl⟩
        have HKD : Hid (kd wa = if r = 0 then 2 else 1) := Lib.hid (by unfold kd; rw [hrr])
        clear hc hb ho hbel HS
        go_upto_region 10 with (fail)
        clear q0 q1
        generalize wr.alloc (.cells #[.int .i64 wa, .int .i64 wm] 46) = wo at HS2 ⊢
        generalize wr.heap.size = gx at HS2 ⊢
        have p0 := HS2.out.cell 1 rfl (k := 0) rfl
        have p1 := HS2.out.cell 1 rfl (k := 1) rfl
        by_cases h0 : r = 0
        · subst h0
          rw [if_pos rfl] at HKD
          have hnew := Lib.hid (Rd.of_own (own_new wo 48 #[.int .i64 2, .int .i64 0, .int .i64 wm] 3 1 rfl (by simp [maxLen]) (Nat.le_refl _)))
          go_wp2_with (at_builtin; refine wpList_append_sep (HS2.out.alloc _) 0 rfl (.tmp 52) (.tmp 57) 44 rfl 48 ti (.agg #[.int .i64 0, .int .i64 0, .int .i64 0]) 3 24 Tryz.underlying44 hti t0 t1 t2 rfl (by omega) _ k _ rfl rfl _ _ 1 1 _ rfl hnew.out (by simp [Value.oneCell']) (by simp only [maxLen]; omega) (by omega) ?_; intro A9 c9 w9 hc9 hs9 H9'; have H9 := Lib.hid H9'; clear H9' hs9)
          go_roundg (n - (k + 1))
          case measure => omega
          case rel => exact ⟨k + 1, A9, c9, by omega, rfl, by go_num, rfl, by rw [HTK.out, HKD.out]; exact H9.out.pick [0] (by decide) (by simp)⟩
        · rw [if_neg h0] at HKD
          have e0 : (r == 0) = false := by simp [h0]
          have hnew := Lib.hid (Rd.of_own (own_new wo 48 #[.int .i64 1, .int .i64 0, .int .i64 wm] 3 1 rfl (by simp [maxLen]) (Nat.le_refl _)))
          clear h0
          go_wp2_with (at_builtin; refine wpList_append_sep (HS2.out.alloc _) 0 rfl (.tmp 52) (.tmp 57) 44 rfl 48 ti (.agg #[.int .i64 0, .int .i64 0, .int .i64 0]) 3 24 Tryz.underlying44 hti t0 t1 t2 rfl (by omega) _ k _ rfl rfl _ _ 1 1 _ rfl hnew.out (by simp [Value.oneCell']) (by simp only [maxLen]; omega) (by omega) ?_; intro A9 c9 w9 hc9 hs9 H9'; have H9 := Lib.hid H9'; clear H9' hs9)
          go_roundg (n - (k + 1))
          case measure => omega
          case rel => exact ⟨k + 1, A9, c9, by omega, rfl, by go_num, rfl, by rw [HTK.out, HKD.out]; exact H9.out.pick [0] (by decide) (by simp)⟩
      · obtain rfl : n = k := by omega
        have htk2 : os.take n = os := List.take_of_length_le (by rw [HOL.out]; exact Nat.le_refl _)
        rw [htk2] at HS
        have cP2 := Lib.hid (cP.out A5 c5 wr (HS.out.rd 0 rfl))
        have hmm := @run_makeMap Tryz.prog
        clear cP htk2 hlt
        go_wp2_with fail
        refine cP2.out.mono ?_; rintro en w3 ⟨A1, c1, A2, c2, rfl, hs3⟩
        have h3 := (((((((HS.out.join hs3).pick [1, 2] (by decide) (by simp)).newMap Tryz.prog 3 (Value.int .i64) (id : Value → Value)).newMap Tryz.prog 3 (Value.int .i64) Fk.cE).nilRow 60 3 none).nilRow 60 3 none).nilRow 60 3 none).nilRow 60 3 none
        have e1 : (w3.alloc (.map #[] 0)).heap.size = w3.heap.size + 1 := by
          show (w3.heap.push _).size = _
          simp
        rw [e1] at h3
        have H3 : Hid (Sep w ((w3.alloc (.map #[] 0)).alloc (.map #[] 0)) (LL A1 n c1 an A2 nL c2 L w3.heap.size 0 mno (w3.heap.size + 1) 0 mno (fun _ => none) (fun _ => []) (fun _ => 0))) := Lib.hid h3
        clear hs3 cP2 HS h3 e1
        go_wp2
        clear hmm
        generalize (w3.alloc (.map #[] 0)).alloc (.map #[] 0) = w4 at H3 ⊢
        generalize w3.heap.size + 1 = gE at H3 ⊢
        generalize w3.heap.size = gF at H3 ⊢
        have HI0 := Lib.hid (inv0 hS1)
        go_loopg [80] n (fun g i wr => ∃ (k : Nat) (l : List Sp.N) (fb : Nat → List Nat) (fl : Nat → List Runs.R) (hF : Int → Option Value) (hE : Int → Option Nat) (nF nE : Nat) (fA : Nat → Option Addr) (fc : Nat → Nat), k ≤ n ∧ g = n - k ∧ i = .int .i64 (k : Int) ∧ nF ≤ k ∧ nE ≤ k ∧ Hid (Sp.play S (os.drop k) l = (an.drop k, L)) ∧ Hid (Inv S l fb) ∧ Hid (∀ f : Nat, f < 4 → FI (fl f) (fb f)) ∧
          Hid (∀ f : Nat, f < 4 → (hF (f : Int)).elim (Value.slice none 0 0) id = .slice (fA f) (fl f).length (fc f)) ∧ Hid (∀ f : Nat, f < 4 → (hE (f : Int)).elim (Value.int .i64 0) Fk.cE = .int .i64 ((fb f).length : Int)) ∧ Sep w wr (LL A1 n c1 an A2 nL c2 L gF nF hF gE nE hE fA fl fc))
        case atStart => exact ⟨0, Sp.whole S, fun _ => [], fun _ => [], mno, mno, 0, 0, fun _ => none, fun _ => 0, Nat.zero_le _, rfl, rfl, Nat.le_refl _, Nat.le_refl _, HPP, HI0, Lib.hid (fun _ _ => fi0), Lib.hid (fun _ _ => rfl), Lib.hid (fun _ _ => rfl), H3.out⟩
        case round =>
          clear H3 HI0 HPP
          obtain ⟨k, l, fb, fl, hF, hE, nF, nE, fA, fc, hk, rfl, rfl, hnF, hnE, HPL, HINV, HFS, HFV, HEV, hs⟩ := hrel
          have HS := Lib.hid hs
          clear hs
          by_cases hlt : k < n
          · have i3 : (0 : Int) ≤ (k : Int) := by omega
            have i4 : (k : Int) < (n : Int) := by omega
            obtain ⟨⟨wa, wm⟩, ho⟩ : ∃ o, ws[k]? = some o := ⟨_, List.getElem?_eq_getElem (by rw [HL.out]; exact hlt)⟩
            obtain ⟨⟨er, at'⟩, ha⟩ : ∃ a, an[k]? = some a := ⟨_, List.getElem?_eq_getElem (by rw [HAL.out]; exact hlt)⟩
            obtain ⟨b0, off0, rfl, hb0, hc0⟩ := HR.out.at_ Sp.G.len (by omega)
            have hbel : Below w.heap.size w wr := HS.out.below
            have q0 : wr.cell? ⟨b0, off0 + k * 2, none⟩ = some (.int .i64 wa) := (hbel.cell (p := ⟨b0, off0 + k * 2, none⟩) hb0).trans (hc0 k 0 _ _ ho rfl)
            have q1 : wr.cell? ⟨b0, off0 + k * 2 + 1, none⟩ = some (.int .i64 wm) := (hbel.cell (p := ⟨b0, off0 + k * 2 + 1, none⟩) hb0).trans (hc0 k 1 _ _ ho rfl)
            have hstep : (er ≠ 0 ∧ Sp.play S (os.drop (k + 1)) l = (an.drop (k + 1), L)) ∨ (er = 0 ∧ ∃ (m at_ : Nat) (l' : List Sp.N), wm = (m : Int) ∧ at' = (at_ : Int) ∧ 1 ≤ m ∧ at_ + m ≤ S ∧ (∀ k, at_ ≤ k → k < at_ + m → Sp.mem l k = true) ∧ Sp.Ok S 0 l' ∧ (∀ k, Sp.mem l' k = (Sp.mem l k && !(Sp.inG ⟨at_, m⟩ k))) ∧ Sp.play S (os.drop (k + 1)) l' = (an.drop (k + 1), L)) := by
              have h9 : os[k]? = some (opOf ⟨wa, wm⟩) := by rw [← HOS.out, List.getElem?_map, ho]; rfl
              have h8 := HPL.out
              obtain ⟨hk9, e9⟩ := List.getElem?_eq_some_iff.1 h9
              obtain ⟨hk8, e8⟩ := List.getElem?_eq_some_iff.1 ha
              rw [List.drop_eq_getElem_cons hk9, List.drop_eq_getElem_cons hk8, e9, e8] at h8
              exact space_step HINV.out.ok (kd_or wa) h8
            have HS2 : Hid (Sep w (wr.alloc (.cells #[.int .i64 wa, .int .i64 wm] 46)) (LL A1 n c1 an A2 nL c2 L gF nF hF gE nE hE fA fl fc ++ [.cells wr.heap.size 46 [.int .i64 wa, .int .i64 wm]])) := Lib.hid (HS.out.new 46 [.int .i64 wa, .int .i64 wm])
            have HAK := Lib.hid ha
            clear hc0 hb0 ho hbel HS ha
            go_upto_region 22 with (fail)
            clear q0 q1
            generalize wr.alloc (.cells #[.int .i64 wa, .int .i64 wm] 46) = wo at HS2 ⊢
            generalize wr.heap.size = gx at HS2 ⊢
            obtain ⟨b, off, rfl, hb, hc⟩ := (HS2.out.rd 0 rfl).at_ Sp.An.len (by omega)
            have r0 : wo.cell? ⟨b, off + k * 2, none⟩ = some (.int .i64 er) := hc k 0 _ _ HAK.out rfl
            have p0 := HS2.out.cell 8 rfl (k := 0) rfl
            clear hc hb
            rcases hstep with ⟨her, hpl2⟩ | ⟨rfl, m, at_, l', hwm, rfl, hm1, hms, hfree, hok', hmm', hpl2⟩
            · have e1 : (er == 0) = false := by simp [her]
              have e2 : (er != 0) = true := by simp [her]
              have HPL2 := Lib.hid hpl2
              clear hpl2 her
              go_wp2
              go_roundg (n - (k + 1))
              case measure => omega
              case rel => exact ⟨k + 1, l, fb, fl, hF, hE, nF, nE, fA, fc, by omega, rfl, by go_num, by omega, by omega, HPL2, HINV, HFS, HFV, HEV, HS2.out.pick [0, 1, 2, 3, 4, 5, 6, 7] (by decide) (by simp [LL])⟩
            · obtain ⟨f, hf4, hand⟩ := and3 wa
              have HPL2 := Lib.hid hpl2
              have HF4 := Lib.hid hf4
              have HWM := Lib.hid hwm
              have hfl4 := fb_len fb hf4
              have hall := inv_len HINV.out
              have HINV2 := Lib.hid (inv_take HINV.out hf4 hms hfree hok' hmm')
              have hbd : ∀ d ∈ fb f, d ≤ 4096 := fun d hd => by
                have := ((HINV.out.mem d).1 (fb_mem fb hf4 hd)).1
                omega
              obtain ⟨e, he⟩ : ∃ e, (fb f).length = e := ⟨_, rfl⟩
              obtain ⟨A0, hA0⟩ : ∃ A0, fA f = A0 := ⟨_, rfl⟩
              obtain ⟨n0, hn0⟩ : ∃ n0, (fl f).length = n0 := ⟨_, rfl⟩
              obtain ⟨c0, hc0⟩ : ∃ c0, fc f = c0 := ⟨_, rfl⟩
              have HEL := Lib.hid he
              have HEM : Hid (e + m ≤ 400) := Lib.hid (by omega)
              obtain ⟨LX, hLX⟩ : ∃ LX, (LL (some ⟨b, off, none⟩) n c1 an A2 nL c2 L gF nF hF gE nE hE fA fl fc ++ [.cells gx 46 [.int .i64 wa, .int .i64 wm]]) = LX := ⟨_, rfl⟩
              have HLX := Lib.hid hLX
              clear hLX
              have HLF : Hid (∀ w', Sep w w' LX → (Instr.lookup 52 (.map (some gF)) (.int .i64 (f : Int)) false).run Tryz.prog w' = .ok (.slice A0 n0 c0) w') := Lib.hid (fun w' hS => by
                rw [← HLX.out] at hS
                have h := hS.look 2 rfl kint (wf4 hf4) Tryz.underlying52 (rz w')
                rw [HFV.out f hf4, hA0, hn0, hc0] at h
                exact h)
              have HLE : Hid (∀ w', Sep w w' LX → (Instr.lookup 53 (.map (some gE)) (.int .i64 (f : Int)) false).run Tryz.prog w' = .ok (.int .i64 (e : Int)) w') := Lib.hid (fun w' hS => by
                rw [← HLX.out] at hS
                have h := hS.look 3 rfl kint (wf4 hf4) Tryz.underlying53 (iz w')
                rw [HEV.out f hf4, he] at h
                exact h)
              have HLA : Hid (∀ w', Sep w w' LX → w'.cell? ⟨b, off + k * 2 + 1, none⟩ = some (.int .i64 (at_ : Int))) := Lib.hid (fun w' hS => by
                rw [← HLX.out] at hS
                obtain ⟨b', off', e', _, hc'⟩ := (hS.rd 0 rfl).at_ Sp.An.len (by omega)
                cases e'
                exact hc' k 1 _ _ HAK.out rfl)
              have HPC : Hid (∀ w', Sep w w' LX → Calls Tryz.prog 10 #[.slice A0 n0 c0, .agg #[.int .i64 (e : Int), .int .i64 (at_ : Int), .int .i64 (m : Int)]] w' (fun en w'' => ∃ A' c' cl, FI cl (fb f ++ List.range' at_ m) ∧ en = .returned (.tuple #[.slice A' cl.length c', .int .i64 0]) ∧ Sep w' w'' [.row 60 3 (.slice A' cl.length c') cl.length (cl.flatMap Runs.R.cells)])) := Lib.hid (fun w' hS => by
                rw [← HLX.out] at hS
                have h := put_c (HFS.out f hf4) (fA f) (fc f) at_ m hm1 (by omega) (by omega) hbd w' (ll_row hS hf4).1
                rw [he, hA0, hn0, hc0] at h
                exact h)
              have HLW : Hid (∀ w', Sep w w' LX → w'.cell? ⟨gx, 1, none⟩ = some (.int .i64 (m : Int))) := Lib.hid (fun w' hS => by
                rw [← HLX.out] at hS
                rw [← hwm]
                exact hS.cell 8 rfl (k := 1) rfl)
              have HS : Hid (Sep w wo LX) := Lib.hid (by rw [← HLX.out]; exact HS2.out)
              clear hpl2 hf4 hwm hfree hok' hmm' hbd he hA0 hn0 hc0 HS2 hfl4 hall HINV hm1 hms
              go_upto_region 24 with (fail)
              clear r0 p0 hand
              refine wp_region_inv0 (fun ac0 L ac w' => ∃ x17 x18 x94 x95 x96 x97 x98 x99 x100 x101 x102 x103 x104 x105 x106 x107 x108 x109 x110 x111, ac = turn ac0 [(17, x17), (18, x18), (94, x94), (95, x95), (96, x96), (97, x97), (98, x98), (99, x99), (100, x100), (101, x101), (102, x102), (103, x103), (104, x104), (105, x105), (106, x106), (107, x107), (108, x108), (109, x109), (110, x110), (111, x111)] ∧ (L 0 = true → x95 = .map (some gF)) ∧ (L 1 = true → x96 = .int .i64 (f : Int)) ∧ (L 2 = true → x97 = .slice A0 n0 c0) ∧ (L 3 = true → x98 = .map (some gE)) ∧ (L 4 = true → x99 = .int .i64 (f : Int)) ∧ (L 5 = true → x100 = .int .i64 (e : Int)) ∧ (L 6 = true → x101 = .slice (some ⟨b, off, none⟩) n c1) ∧ (L 7 = true → x102 = .int .i64 (k : Int)) ∧ (L 8 = true → x103 = .pointer (some ⟨b, off + k * 2, none⟩)) ∧ (L 9 = true → x104 = .pointer (some ⟨b, off + k * 2 + 1, none⟩)) ∧ (L 10 = true → x105 = .int .i64 (at_ : Int)) ∧ (L 11 = true → x106 = .pointer (some ⟨gx, 1, none⟩)) ∧ (L 12 = true → x107 = .int .i64 (m : Int)) ∧ (L 13 = true → x108 = .agg #[.int .i64 (e : Int), .int .i64 (at_ : Int), .int .i64 (m : Int)]) ∧ (L 15 = true → x94 = x109) ∧ (L 16 = true → x110 = tupA x109) ∧ (L 17 = true → x111 = tupB x109) ∧ (L 18 = true → x17 = x110) ∧ (L 19 = true → x18 = x111) ∧ (L 2 = true → L 0 = true ∧ L 1 = true) ∧ (L 5 = true → L 3 = true ∧ L 4 = true) ∧ (L 8 = true → L 6 = true ∧ L 7 = true) ∧ (L 9 = true → L 8 = true) ∧ (L 10 = true → L 9 = true) ∧ (L 12 = true → L 11 = true) ∧ (L 13 = true → L 5 = true ∧ L 10 = true ∧ L 12 = true) ∧ (L 14 = true → L 2 = true ∧ L 13 = true) ∧ (L 15 = true → L 14 = true) ∧ (L 16 = true → L 15 = true) ∧ (L 17 = true → L 15 = true) ∧ (L 18 = true → L 0 = true ∧ L 1 = true ∧ L 2 = true ∧ L 3 = true ∧ L 4 = true ∧ L 5 = true ∧ L 6 = true ∧ L 7 = true ∧ L 8 = true ∧ L 9 = true ∧ L 10 = true ∧ L 11 = true ∧ L 12 = true ∧ L 13 = true ∧ L 14 = true ∧ L 15 = true ∧ L 16 = true) ∧ (L 19 = true → L 0 = true ∧ L 1 = true ∧ L 2 = true ∧ L 3 = true ∧ L 4 = true ∧ L 5 = true ∧ L 6 = true ∧ L 7 = true ∧ L 8 = true ∧ L 9 = true ∧ L 10 = true ∧ L 11 = true ∧ L 12 = true ∧ L 13 = true ∧ L 14 = true ∧ L 15 = true ∧ L 16 = true ∧ L 17 = true ∧ L 18 = true) ∧ (if L 14 = true then (∃ A' c' cl, x109 = .tuple #[.slice A' cl.length c', .int .i64 0] ∧ Hid (FI cl (fb f ++ List.range' at_ m)) ∧ Sep w w' ((LX) ++ [.row 60 3 (.slice A' cl.length c') cl.length (cl.flatMap Runs.R.cells)])) else Sep w w' (LX))) rfl (by kernel_rfl) ?_ ?_ ?_
              · simp only [turn, List.foldl_cons, List.foldl_nil, List.setIfInBounds_toArray, List.set_cons_succ, List.set_cons_zero]
                exact ⟨_, _, _, _, _, _, _, _, _, _, _, _, _, _, _, _, _, _, _, _, rfl, (fun h => absurd h (by decide)), (fun h => absurd h (by decide)), (fun h => absurd h (by decide)), (fun h => absurd h (by decide)), (fun h => absurd h (by decide)), (fun h => absurd h (by decide)), (fun h => absurd h (by decide)), (fun h => absurd h (by decide)), (fun h => absurd h (by decide)), (fun h => absurd h (by decide)), (fun h => absurd h (by decide)), (fun h => absurd h (by decide)), (fun h => absurd h (by decide)), (fun h => absurd h (by decide)), (fun h => absurd h (by decide)), (fun h => absurd h (by decide)), (fun h => absurd h (by decide)), (fun h => absurd h (by decide)), (fun h => absurd h (by decide)), (fun h => absurd h (by decide)), (fun h => absurd h (by decide)), (fun h => absurd h (by decide)), (fun h => absurd h (by decide)), (fun h => absurd h (by decide)), (fun h => absurd h (by decide)), (fun h => absurd h (by decide)), (fun h => absurd h (by decide)), (fun h => absurd h (by decide)), (fun h => absurd h (by decide)), (fun h => absurd h (by decide)), (fun h => absurd h (by decide)), (fun h => absurd h (by decide)), by simpa using HS.out.drew⟩
              · rintro L ac w' i o ⟨x17, x18, x94, x95, x96, x97, x98, x99, x100, x101, x102, x103, x104, x105, x106, x107, x108, x109, x110, x111, ha, p0, p1, p2, p3, p4, p5, p6, p7, p8, p9, p10, p11, p12, p13, p15, p16, p17, p18, p19, q2, q5, q8, q9, q10, q12, q13, q14, q15, q16, q17, q18, q19, hS⟩ ho hi he
                simp only [turn, List.foldl_cons, List.foldl_nil, List.setIfInBounds_toArray, List.set_cons_succ, List.set_cons_zero] at ha ⊢
                subst ha
                rcases i with _|_|_|_|_|_|_|_|_|_|_|_|_|_|_|_|_|_|_|_|i
                all_goals cases ho
                all_goals simp [Region.binds] at he
                · have h2 : L 2 = false := by cases hh : L 2 with | false => rfl | true => (have hq := q2 hh; simp [hi] at hq)
                  have h18 : L 18 = false := by cases hh : L 18 with | false => rfl | true => (have hq := q18 hh; simp [hi] at hq)
                  have h19 : L 19 = false := by cases hh : L 19 with | false => rfl | true => (have hq := q19 hh; simp [hi] at hq)
                  have h14 : L 14 = false := by cases hh : L 14 with | false => rfl | true => (have hq := q14 hh; simp [h2] at hq)
                  have h15 : L 15 = false := by cases hh : L 15 with | false => rfl | true => (have hq := q15 hh; simp [h14] at hq)
                  have h16 : L 16 = false := by cases hh : L 16 with | false => rfl | true => (have hq := q16 hh; simp [h15] at hq)
                  have h17 : L 17 = false := by cases hh : L 17 with | false => rfl | true => (have hq := q17 hh; simp [h15] at hq)
                  refine wpOp_step rfl (fun K hK => ?_)
                  go_simp
                  exact hK _ _ ⟨_, _, _, _, _, _, _, _, _, _, _, _, _, _, _, _, _, _, _, _, rfl, (fun _ => rfl), (by first | exact p1 | exact fun _ => rfl), (by simp [h2]), (by first | exact p3 | exact fun _ => rfl), (by first | exact p4 | exact fun _ => rfl), (by first | exact p5 | exact fun _ => rfl), (by first | exact p6 | exact fun _ => rfl), (by first | exact p7 | exact fun _ => rfl), (by first | exact p8 | exact fun _ => rfl), (by first | exact p9 | exact fun _ => rfl), (by first | exact p10 | exact fun _ => rfl), (by first | exact p11 | exact fun _ => rfl), (by first | exact p12 | exact fun _ => rfl), (by first | exact p13 | exact fun _ => rfl), (by simp [h15]), (by simp [h16]), (by simp [h17]), (by simp [h18]), (by simp [h19]), (by simp [h2]), (by simpa using q5), (by simpa using q8), (by simpa using q9), (by simpa using q10), (by simpa using q12), (by simpa using q13), (by simp [h14]), (by simp [h15]), (by simp [h16]), (by simp [h17]), (by simp [h18]), (by simp [h19]), (by simpa [h2, h18, h19, h14, h15, h16, h17] using hS)⟩
                · have h2 : L 2 = false := by cases hh : L 2 with | false => rfl | true => (have hq := q2 hh; simp [hi] at hq)
                  have h18 : L 18 = false := by cases hh : L 18 with | false => rfl | true => (have hq := q18 hh; simp [hi] at hq)
                  have h19 : L 19 = false := by cases hh : L 19 with | false => rfl | true => (have hq := q19 hh; simp [hi] at hq)
                  have h14 : L 14 = false := by cases hh : L 14 with | false => rfl | true => (have hq := q14 hh; simp [h2] at hq)
                  have h15 : L 15 = false := by cases hh : L 15 with | false => rfl | true => (have hq := q15 hh; simp [h14] at hq)
                  have h16 : L 16 = false := by cases hh : L 16 with | false => rfl | true => (have hq := q16 hh; simp [h15] at hq)
                  have h17 : L 17 = false := by cases hh : L 17 with | false => rfl | true => (have hq := q17 hh; simp [h15] at hq)
                  refine wpOp_step rfl (fun K hK => ?_)
                  go_simp
                  exact hK _ _ ⟨_, _, _, _, _, _, _, _, _, _, _, _, _, _, _, _, _, _, _, _, rfl, (by first | exact p0 | exact fun _ => rfl), (fun _ => rfl), (by simp [h2]), (by first | exact p3 | exact fun _ => rfl), (by first | exact p4 | exact fun _ => rfl), (by first | exact p5 | exact fun _ => rfl), (by first | exact p6 | exact fun _ => rfl), (by first | exact p7 | exact fun _ => rfl), (by first | exact p8 | exact fun _ => rfl), (by first | exact p9 | exact fun _ => rfl), (by first | exact p10 | exact fun _ => rfl), (by first | exact p11 | exact fun _ => rfl), (by first | exact p12 | exact fun _ => rfl), (by first | exact p13 | exact fun _ => rfl), (by simp [h15]), (by simp [h16]), (by simp [h17]), (by simp [h18]), (by simp [h19]), (by simp [h2]), (by simpa using q5), (by simpa using q8), (by simpa using q9), (by simpa using q10), (by simpa using q12), (by simpa using q13), (by simp [h14]), (by simp [h15]), (by simp [h16]), (by simp [h17]), (by simp [h18]), (by simp [h19]), (by simpa [h2, h18, h19, h14, h15, h16, h17] using hS)⟩
                · have h14 : L 14 = false := by cases hh : L 14 with | false => rfl | true => (have hq := q14 hh; simp [hi] at hq)
                  have h18 : L 18 = false := by cases hh : L 18 with | false => rfl | true => (have hq := q18 hh; simp [hi] at hq)
                  have h19 : L 19 = false := by cases hh : L 19 with | false => rfl | true => (have hq := q19 hh; simp [hi] at hq)
                  have h15 : L 15 = false := by cases hh : L 15 with | false => rfl | true => (have hq := q15 hh; simp [h14] at hq)
                  have h16 : L 16 = false := by cases hh : L 16 with | false => rfl | true => (have hq := q16 hh; simp [h15] at hq)
                  have h17 : L 17 = false := by cases hh : L 17 with | false => rfl | true => (have hq := q17 hh; simp [h15] at hq)
                  obtain rfl := p0 (by simp [he])
                  obtain rfl := p1 (by simp [he])
                  have f0 : (Instr.lookup 52 (.map (some gF)) (.int .i64 (f : Int)) false).run Tryz.prog w' = .ok (.slice A0 n0 c0) w' := by
                    rw [if_neg (by simp [h14])] at hS
                    exact HLF.out w' hS
                  refine wpOp_step rfl (fun K hK => ?_)
                  go_simp
                  exact hK _ _ ⟨_, _, _, _, _, _, _, _, _, _, _, _, _, _, _, _, _, _, _, _, rfl, (by first | exact p0 | exact fun _ => rfl), (by first | exact p1 | exact fun _ => rfl), (fun _ => rfl), (by first | exact p3 | exact fun _ => rfl), (by first | exact p4 | exact fun _ => rfl), (by first | exact p5 | exact fun _ => rfl), (by first | exact p6 | exact fun _ => rfl), (by first | exact p7 | exact fun _ => rfl), (by first | exact p8 | exact fun _ => rfl), (by first | exact p9 | exact fun _ => rfl), (by first | exact p10 | exact fun _ => rfl), (by first | exact p11 | exact fun _ => rfl), (by first | exact p12 | exact fun _ => rfl), (by first | exact p13 | exact fun _ => rfl), (by simp [h15]), (by simp [h16]), (by simp [h17]), (by simp [h18]), (by simp [h19]), (by simp [he]), (by simpa using q5), (by simpa using q8), (by simpa using q9), (by simpa using q10), (by simpa using q12), (by simpa using q13), (by simp [h14]), (by simp [h15]), (by simp [h16]), (by simp [h17]), (by simp [h18]), (by simp [h19]), (by simpa [h14, h18, h19, h15, h16, h17] using hS)⟩
                · have h5 : L 5 = false := by cases hh : L 5 with | false => rfl | true => (have hq := q5 hh; simp [hi] at hq)
                  have h18 : L 18 = false := by cases hh : L 18 with | false => rfl | true => (have hq := q18 hh; simp [hi] at hq)
                  have h19 : L 19 = false := by cases hh : L 19 with | false => rfl | true => (have hq := q19 hh; simp [hi] at hq)
                  have h13 : L 13 = false := by cases hh : L 13 with | false => rfl | true => (have hq := q13 hh; simp [h5] at hq)
                  have h14 : L 14 = false := by cases hh : L 14 with | false => rfl | true => (have hq := q14 hh; simp [h13] at hq)
                  have h15 : L 15 = false := by cases hh : L 15 with | false => rfl | true => (have hq := q15 hh; simp [h14] at hq)
                  have h16 : L 16 = false := by cases hh : L 16 with | false => rfl | true => (have hq := q16 hh; simp [h15] at hq)
                  have h17 : L 17 = false := by cases hh : L 17 with | false => rfl | true => (have hq := q17 hh; simp [h15] at hq)
                  refine wpOp_step rfl (fun K hK => ?_)
                  go_simp
                  exact hK _ _ ⟨_, _, _, _, _, _, _, _, _, _, _, _, _, _, _, _, _, _, _, _, rfl, (by first | exact p0 | exact fun _ => rfl), (by first | exact p1 | exact fun _ => rfl), (by first | exact p2 | exact fun _ => rfl), (fun _ => rfl), (by first | exact p4 | exact fun _ => rfl), (by simp [h5]), (by first | exact p6 | exact fun _ => rfl), (by first | exact p7 | exact fun _ => rfl), (by first | exact p8 | exact fun _ => rfl), (by first | exact p9 | exact fun _ => rfl), (by first | exact p10 | exact fun _ => rfl), (by first | exact p11 | exact fun _ => rfl), (by first | exact p12 | exact fun _ => rfl), (by simp [h13]), (by simp [h15]), (by simp [h16]), (by simp [h17]), (by simp [h18]), (by simp [h19]), (by simpa using q2), (by simp [h5]), (by simpa using q8), (by simpa using q9), (by simpa using q10), (by simpa using q12), (by simp [h13]), (by simp [h14]), (by simp [h15]), (by simp [h16]), (by simp [h17]), (by simp [h18]), (by simp [h19]), (by simpa [h5, h18, h19, h13, h14, h15, h16, h17] using hS)⟩
                · have h5 : L 5 = false := by cases hh : L 5 with | false => rfl | true => (have hq := q5 hh; simp [hi] at hq)
                  have h18 : L 18 = false := by cases hh : L 18 with | false => rfl | true => (have hq := q18 hh; simp [hi] at hq)
                  have h19 : L 19 = false := by cases hh : L 19 with | false => rfl | true => (have hq := q19 hh; simp [hi] at hq)
                  have h13 : L 13 = false := by cases hh : L 13 with | false => rfl | true => (have hq := q13 hh; simp [h5] at hq)
                  have h14 : L 14 = false := by cases hh : L 14 with | false => rfl | true => (have hq := q14 hh; simp [h13] at hq)
                  have h15 : L 15 = false := by cases hh : L 15 with | false => rfl | true => (have hq := q15 hh; simp [h14] at hq)
                  have h16 : L 16 = false := by cases hh : L 16 with | false => rfl | true => (have hq := q16 hh; simp [h15] at hq)
                  have h17 : L 17 = false := by cases hh : L 17 with | false => rfl | true => (have hq := q17 hh; simp [h15] at hq)
                  refine wpOp_step rfl (fun K hK => ?_)
                  go_simp
                  exact hK _ _ ⟨_, _, _, _, _, _, _, _, _, _, _, _, _, _, _, _, _, _, _, _, rfl, (by first | exact p0 | exact fun _ => rfl), (by first | exact p1 | exact fun _ => rfl), (by first | exact p2 | exact fun _ => rfl), (by first | exact p3 | exact fun _ => rfl), (fun _ => rfl), (by simp [h5]), (by first | exact p6 | exact fun _ => rfl), (by first | exact p7 | exact fun _ => rfl), (by first | exact p8 | exact fun _ => rfl), (by first | exact p9 | exact fun _ => rfl), (by first | exact p10 | exact fun _ => rfl), (by first | exact p11 | exact fun _ => rfl), (by first | exact p12 | exact fun _ => rfl), (by simp [h13]), (by simp [h15]), (by simp [h16]), (by simp [h17]), (by simp [h18]), (by simp [h19]), (by simpa using q2), (by simp [h5]), (by simpa using q8), (by simpa using q9), (by simpa using q10), (by simpa using q12), (by simp [h13]), (by simp [h14]), (by simp [h15]), (by simp [h16]), (by simp [h17]), (by simp [h18]), (by simp [h19]), (by simpa [h5, h18, h19, h13, h14, h15, h16, h17] using hS)⟩
                · have h13 : L 13 = false := by cases hh : L 13 with | false => rfl | true => (have hq := q13 hh; simp [hi] at hq)
                  have h18 : L 18 = false := by cases hh : L 18 with | false => rfl | true => (have hq := q18 hh; simp [hi] at hq)
                  have h19 : L 19 = false := by cases hh : L 19 with | false => rfl | true => (have hq := q19 hh; simp [hi] at hq)
                  have h14 : L 14 = false := by cases hh : L 14 with | false => rfl | true => (have hq := q14 hh; simp [h13] at hq)
                  have h15 : L 15 = false := by cases hh : L 15 with | false => rfl | true => (have hq := q15 hh; simp [h14] at hq)
                  have h16 : L 16 = false := by cases hh : L 16 with | false => rfl | true => (have hq := q16 hh; simp [h15] at hq)
                  have h17 : L 17 = false := by cases hh : L 17 with | false => rfl | true => (have hq := q17 hh; simp [h15] at hq)
                  obtain rfl := p3 (by simp [he])
                  obtain rfl := p4 (by simp [he])
                  have f0 : (Instr.lookup 53 (.map (some gE)) (.int .i64 (f : Int)) false).run Tryz.prog w' = .ok (.int .i64 (e : Int)) w' := by
                    rw [if_neg (by simp [h14])] at hS
                    exact HLE.out w' hS
                  refine wpOp_step rfl (fun K hK => ?_)
                  go_simp
                  exact hK _ _ ⟨_, _, _, _, _, _, _, _, _, _, _, _, _, _, _, _, _, _, _, _, rfl, (by first | exact p0 | exact fun _ => rfl), (by first | exact p1 | exact fun _ => rfl), (by first | exact p2 | exact fun _ => rfl), (by first | exact p3 | exact fun _ => rfl), (by first | exact p4 | exact fun _ => rfl), (fun _ => rfl), (by first | exact p6 | exact fun _ => rfl), (by first | exact p7 | exact fun _ => rfl), (by first | exact p8 | exact fun _ => rfl), (by first | exact p9 | exact fun _ => rfl), (by first | exact p10 | exact fun _ => rfl), (by first | exact p11 | exact fun _ => rfl), (by first | exact p12 | exact fun _ => rfl), (by simp [h13]), (by simp [h15]), (by simp [h16]), (by simp [h17]), (by simp [h18]), (by simp [h19]), (by simpa using q2), (by simp [he]), (by simpa using q8), (by simpa using q9), (by simpa using q10), (by simpa using q12), (by simp [h13]), (by simp [h14]), (by simp [h15]), (by simp [h16]), (by simp [h17]), (by simp [h18]), (by simp [h19]), (by simpa [h13, h18, h19, h14, h15, h16, h17] using hS)⟩
                · have h8 : L 8 = false := by cases hh : L 8 with | false => rfl | true => (have hq := q8 hh; simp [hi] at hq)
                  have h18 : L 18 = false := by cases hh : L 18 with | false => rfl | true => (have hq := q18 hh; simp [hi] at hq)
                  have h19 : L 19 = false := by cases hh : L 19 with | false => rfl | true => (have hq := q19 hh; simp [hi] at hq)
                  have h9 : L 9 = false := by cases hh : L 9 with | false => rfl | true => (have hq := q9 hh; simp [h8] at hq)
                  have h10 : L 10 = false := by cases hh : L 10 with | false => rfl | true => (have hq := q10 hh; simp [h9] at hq)
                  have h13 : L 13 = false := by cases hh : L 13 with | false => rfl | true => (have hq := q13 hh; simp [h10] at hq)
                  have h14 : L 14 = false := by cases hh : L 14 with | false => rfl | true => (have hq := q14 hh; simp [h13] at hq)
                  have h15 : L 15 = false := by cases hh : L 15 with | false => rfl | true => (have hq := q15 hh; simp [h14] at hq)
                  have h16 : L 16 = false := by cases hh : L 16 with | false => rfl | true => (have hq := q16 hh; simp [h15] at hq)
                  have h17 : L 17 = false := by cases hh : L 17 with | false => rfl | true => (have hq := q17 hh; simp [h15] at hq)
                  refine wpOp_step rfl (fun K hK => ?_)
                  go_simp
                  exact hK _ _ ⟨_, _, _, _, _, _, _, _, _, _, _, _, _, _, _, _, _, _, _, _, rfl, (by first | exact p0 | exact fun _ => rfl), (by first | exact p1 | exact fun _ => rfl), (by first | exact p2 | exact fun _ => rfl), (by first | exact p3 | exact fun _ => rfl), (by first | exact p4 | exact fun _ => rfl), (by first | exact p5 | exact fun _ => rfl), (fun _ => rfl), (by first | exact p7 | exact fun _ => rfl), (by simp [h8]), (by simp [h9]), (by simp [h10]), (by first | exact p11 | exact fun _ => rfl), (by first | exact p12 | exact fun _ => rfl), (by simp [h13]), (by simp [h15]), (by simp [h16]), (by simp [h17]), (by simp [h18]), (by simp [h19]), (by simpa using q2), (by simpa using q5), (by simp [h8]), (by simp [h9]), (by simp [h10]), (by simpa using q12), (by simp [h13]), (by simp [h14]), (by simp [h15]), (by simp [h16]), (by simp [h17]), (by simp [h18]), (by simp [h19]), (by simpa [h8, h18, h19, h9, h10, h13, h14, h15, h16, h17] using hS)⟩
                · have h8 : L 8 = false := by cases hh : L 8 with | false => rfl | true => (have hq := q8 hh; simp [hi] at hq)
                  have h18 : L 18 = false := by cases hh : L 18 with | false => rfl | true => (have hq := q18 hh; simp [hi] at hq)
                  have h19 : L 19 = false := by cases hh : L 19 with | false => rfl | true => (have hq := q19 hh; simp [hi] at hq)
                  have h9 : L 9 = false := by cases hh : L 9 with | false => rfl | true => (have hq := q9 hh; simp [h8] at hq)
                  have h10 : L 10 = false := by cases hh : L 10 with | false => rfl | true => (have hq := q10 hh; simp [h9] at hq)
                  have h13 : L 13 = false := by cases hh : L 13 with | false => rfl | true => (have hq := q13 hh; simp [h10] at hq)
                  have h14 : L 14 = false := by cases hh : L 14 with | false => rfl | true => (have hq := q14 hh; simp [h13] at hq)
                  have h15 : L 15 = false := by cases hh : L 15 with | false => rfl | true => (have hq := q15 hh; simp [h14] at hq)
                  have h16 : L 16 = false := by cases hh : L 16 with | false => rfl | true => (have hq := q16 hh; simp [h15] at hq)
                  have h17 : L 17 = false := by cases hh : L 17 with | false => rfl | true => (have hq := q17 hh; simp [h15] at hq)
                  refine wpOp_step rfl (fun K hK => ?_)
                  go_simp
                  exact hK _ _ ⟨_, _, _, _, _, _, _, _, _, _, _, _, _, _, _, _, _, _, _, _, rfl, (by first | exact p0 | exact fun _ => rfl), (by first | exact p1 | exact fun _ => rfl), (by first | exact p2 | exact fun _ => rfl), (by first | exact p3 | exact fun _ => rfl), (by first | exact p4 | exact fun _ => rfl), (by first | exact p5 | exact fun _ => rfl), (by first | exact p6 | exact fun _ => rfl), (fun _ => rfl), (by simp [h8]), (by simp [h9]), (by simp [h10]), (by first | exact p11 | exact fun _ => rfl), (by first | exact p12 | exact fun _ => rfl), (by simp [h13]), (by simp [h15]), (by simp [h16]), (by simp [h17]), (by simp [h18]), (by simp [h19]), (by simpa using q2), (by simpa using q5), (by simp [h8]), (by simp [h9]), (by simp [h10]), (by simpa using q12), (by simp [h13]), (by simp [h14]), (by simp [h15]), (by simp [h16]), (by simp [h17]), (by simp [h18]), (by simp [h19]), (by simpa [h8, h18, h19, h9, h10, h13, h14, h15, h16, h17] using hS)⟩
                · have h9 : L 9 = false := by cases hh : L 9 with | false => rfl | true => (have hq := q9 hh; simp [hi] at hq)
                  have h18 : L 18 = false := by cases hh : L 18 with | false => rfl | true => (have hq := q18 hh; simp [hi] at hq)
                  have h19 : L 19 = false := by cases hh : L 19 with | false => rfl | true => (have hq := q19 hh; simp [hi] at hq)
                  have h10 : L 10 = false := by cases hh : L 10 with | false => rfl | true => (have hq := q10 hh; simp [h9] at hq)
                  have h13 : L 13 = false := by cases hh : L 13 with | false => rfl | true => (have hq := q13 hh; simp [h10] at hq)
                  have h14 : L 14 = false := by cases hh : L 14 with | false => rfl | true => (have hq := q14 hh; simp [h13] at hq)
                  have h15 : L 15 = false := by cases hh : L 15 with | false => rfl | true => (have hq := q15 hh; simp [h14] at hq)
                  have h16 : L 16 = false := by cases hh : L 16 with | false => rfl | true => (have hq := q16 hh; simp [h15] at hq)
                  have h17 : L 17 = false := by cases hh : L 17 with | false => rfl | true => (have hq := q17 hh; simp [h15] at hq)
                  obtain rfl := p6 (by simp [he])
                  obtain rfl := p7 (by simp [he])
                  refine wpOp_step rfl (fun K hK => ?_)
                  go_simp
                  exact hK _ _ ⟨_, _, _, _, _, _, _, _, _, _, _, _, _, _, _, _, _, _, _, _, rfl, (by first | exact p0 | exact fun _ => rfl), (by first | exact p1 | exact fun _ => rfl), (by first | exact p2 | exact fun _ => rfl), (by first | exact p3 | exact fun _ => rfl), (by first | exact p4 | exact fun _ => rfl), (by first | exact p5 | exact fun _ => rfl), (by first | exact p6 | exact fun _ => rfl), (by first | exact p7 | exact fun _ => rfl), (fun _ => rfl), (by simp [h9]), (by simp [h10]), (by first | exact p11 | exact fun _ => rfl), (by first | exact p12 | exact fun _ => rfl), (by simp [h13]), (by simp [h15]), (by simp [h16]), (by simp [h17]), (by simp [h18]), (by simp [h19]), (by simpa using q2), (by simpa using q5), (by simp [he]), (by simp [h9]), (by simp [h10]), (by simpa using q12), (by simp [h13]), (by simp [h14]), (by simp [h15]), (by simp [h16]), (by simp [h17]), (by simp [h18]), (by simp [h19]), (by simpa [h9, h18, h19, h10, h13, h14, h15, h16, h17] using hS)⟩
                · have h10 : L 10 = false := by cases hh : L 10 with | false => rfl | true => (have hq := q10 hh; simp [hi] at hq)
                  have h18 : L 18 = false := by cases hh : L 18 with | false => rfl | true => (have hq := q18 hh; simp [hi] at hq)
                  have h19 : L 19 = false := by cases hh : L 19 with | false => rfl | true => (have hq := q19 hh; simp [hi] at hq)
                  have h13 : L 13 = false := by cases hh : L 13 with | false => rfl | true => (have hq := q13 hh; simp [h10] at hq)
                  have h14 : L 14 = false := by cases hh : L 14 with | false => rfl | true => (have hq := q14 hh; simp [h13] at hq)
                  have h15 : L 15 = false := by cases hh : L 15 with | false => rfl | true => (have hq := q15 hh; simp [h14] at hq)
                  have h16 : L 16 = false := by cases hh : L 16 with | false => rfl | true => (have hq := q16 hh; simp [h15] at hq)
                  have h17 : L 17 = false := by cases hh : L 17 with | false => rfl | true => (have hq := q17 hh; simp [h15] at hq)
                  obtain rfl := p8 (by simp [he])
                  refine wpOp_step rfl (fun K hK => ?_)
                  go_simp
                  exact hK _ _ ⟨_, _, _, _, _, _, _, _, _, _, _, _, _, _, _, _, _, _, _, _, rfl, (by first | exact p0 | exact fun _ => rfl), (by first | exact p1 | exact fun _ => rfl), (by first | exact p2 | exact fun _ => rfl), (by first | exact p3 | exact fun _ => rfl), (by first | exact p4 | exact fun _ => rfl), (by first | exact p5 | exact fun _ => rfl), (by first | exact p6 | exact fun _ => rfl), (by first | exact p7 | exact fun _ => rfl), (by first | exact p8 | exact fun _ => rfl), (fun _ => rfl), (by simp [h10]), (by first | exact p11 | exact fun _ => rfl), (by first | exact p12 | exact fun _ => rfl), (by simp [h13]), (by simp [h15]), (by simp [h16]), (by simp [h17]), (by simp [h18]), (by simp [h19]), (by simpa using q2), (by simpa using q5), (by simpa using q8), (by simp [he]), (by simp [h10]), (by simpa using q12), (by simp [h13]), (by simp [h14]), (by simp [h15]), (by simp [h16]), (by simp [h17]), (by simp [h18]), (by simp [h19]), (by simpa [h10, h18, h19, h13, h14, h15, h16, h17] using hS)⟩
                · have h13 : L 13 = false := by cases hh : L 13 with | false => rfl | true => (have hq := q13 hh; simp [hi] at hq)
                  have h18 : L 18 = false := by cases hh : L 18 with | false => rfl | true => (have hq := q18 hh; simp [hi] at hq)
                  have h19 : L 19 = false := by cases hh : L 19 with | false => rfl | true => (have hq := q19 hh; simp [hi] at hq)
                  have h14 : L 14 = false := by cases hh : L 14 with | false => rfl | true => (have hq := q14 hh; simp [h13] at hq)
                  have h15 : L 15 = false := by cases hh : L 15 with | false => rfl | true => (have hq := q15 hh; simp [h14] at hq)
                  have h16 : L 16 = false := by cases hh : L 16 with | false => rfl | true => (have hq := q16 hh; simp [h15] at hq)
                  have h17 : L 17 = false := by cases hh : L 17 with | false => rfl | true => (have hq := q17 hh; simp [h15] at hq)
                  obtain rfl := p9 (by simp [he])
                  have f0 : w'.cell? ⟨b, off + k * 2 + 1, none⟩ = some (.int .i64 (at_ : Int)) := by
                    rw [if_neg (by simp [h14])] at hS
                    exact HLA.out w' hS
                  refine wpOp_step rfl (fun K hK => ?_)
                  go_simp
                  exact hK _ _ ⟨_, _, _, _, _, _, _, _, _, _, _, _, _, _, _, _, _, _, _, _, rfl, (by first | exact p0 | exact fun _ => rfl), (by first | exact p1 | exact fun _ => rfl), (by first | exact p2 | exact fun _ => rfl), (by first | exact p3 | exact fun _ => rfl), (by first | exact p4 | exact fun _ => rfl), (by first | exact p5 | exact fun _ => rfl), (by first | exact p6 | exact fun _ => rfl), (by first | exact p7 | exact fun _ => rfl), (by first | exact p8 | exact fun _ => rfl), (by first | exact p9 | exact fun _ => rfl), (fun _ => rfl), (by first | exact p11 | exact fun _ => rfl), (by first | exact p12 | exact fun _ => rfl), (by simp [h13]), (by simp [h15]), (by simp [h16]), (by simp [h17]), (by simp [h18]), (by simp [h19]), (by simpa using q2), (by simpa using q5), (by simpa using q8), (by simpa using q9), (by simp [he]), (by simpa using q12), (by simp [h13]), (by simp [h14]), (by simp [h15]), (by simp [h16]), (by simp [h17]), (by simp [h18]), (by simp [h19]), (by simpa [h13, h18, h19, h14, h15, h16, h17] using hS)⟩
                · have h12 : L 12 = false := by cases hh : L 12 with | false => rfl | true => (have hq := q12 hh; simp [hi] at hq)
                  have h18 : L 18 = false := by cases hh : L 18 with | false => rfl | true => (have hq := q18 hh; simp [hi] at hq)
                  have h19 : L 19 = false := by cases hh : L 19 with | false => rfl | true => (have hq := q19 hh; simp [hi] at hq)
                  have h13 : L 13 = false := by cases hh : L 13 with | false => rfl | true => (have hq := q13 hh; simp [h12] at hq)
                  have h14 : L 14 = false := by cases hh : L 14 with | false => rfl | true => (have hq := q14 hh; simp [h13] at hq)
                  have h15 : L 15 = false := by cases hh : L 15 with | false => rfl | true => (have hq := q15 hh; simp [h14] at hq)
                  have h16 : L 16 = false := by cases hh : L 16 with | false => rfl | true => (have hq := q16 hh; simp [h15] at hq)
                  have h17 : L 17 = false := by cases hh : L 17 with | false => rfl | true => (have hq := q17 hh; simp [h15] at hq)
                  refine wpOp_step rfl (fun K hK => ?_)
                  go_simp
                  exact hK _ _ ⟨_, _, _, _, _, _, _, _, _, _, _, _, _, _, _, _, _, _, _, _, rfl, (by first | exact p0 | exact fun _ => rfl), (by first | exact p1 | exact fun _ => rfl), (by first | exact p2 | exact fun _ => rfl), (by first | exact p3 | exact fun _ => rfl), (by first | exact p4 | exact fun _ => rfl), (by first | exact p5 | exact fun _ => rfl), (by first | exact p6 | exact fun _ => rfl), (by first | exact p7 | exact fun _ => rfl), (by first | exact p8 | exact fun _ => rfl), (by first | exact p9 | exact fun _ => rfl), (by first | exact p10 | exact fun _ => rfl), (fun _ => rfl), (by simp [h12]), (by simp [h13]), (by simp [h15]), (by simp [h16]), (by simp [h17]), (by simp [h18]), (by simp [h19]), (by simpa using q2), (by simpa using q5), (by simpa using q8), (by simpa using q9), (by simpa using q10), (by simp [h12]), (by simp [h13]), (by simp [h14]), (by simp [h15]), (by simp [h16]), (by simp [h17]), (by simp [h18]), (by simp [h19]), (by simpa [h12, h18, h19, h13, h14, h15, h16, h17] using hS)⟩
                · have h13 : L 13 = false := by cases hh : L 13 with | false => rfl | true => (have hq := q13 hh; simp [hi] at hq)
                  have h18 : L 18 = false := by cases hh : L 18 with | false => rfl | true => (have hq := q18 hh; simp [hi] at hq)
                  have h19 : L 19 = false := by cases hh : L 19 with | false => rfl | true => (have hq := q19 hh; simp [hi] at hq)
                  have h14 : L 14 = false := by cases hh : L 14 with | false => rfl | true => (have hq := q14 hh; simp [h13] at hq)
                  have h15 : L 15 = false := by cases hh : L 15 with | false => rfl | true => (have hq := q15 hh; simp [h14] at hq)
                  have h16 : L 16 = false := by cases hh : L 16 with | false => rfl | true => (have hq := q16 hh; simp [h15] at hq)
                  have h17 : L 17 = false := by cases hh : L 17 with | false => rfl | true => (have hq := q17 hh; simp [h15] at hq)
                  obtain rfl := p11 (by simp [he])
                  have f0 : w'.cell? ⟨gx, 1, none⟩ = some (.int .i64 (m : Int)) := by
                    rw [if_neg (by simp [h14])] at hS
                    exact HLW.out w' hS
                  refine wpOp_step rfl (fun K hK => ?_)
                  go_simp
                  exact hK _ _ ⟨_, _, _, _, _, _, _, _, _, _, _, _, _, _, _, _, _, _, _, _, rfl, (by first | exact p0 | exact fun _ => rfl), (by first | exact p1 | exact fun _ => rfl), (by first | exact p2 | exact fun _ => rfl), (by first | exact p3 | exact fun _ => rfl), (by first | exact p4 | exact fun _ => rfl), (by first | exact p5 | exact fun _ => rfl), (by first | exact p6 | exact fun _ => rfl), (by first | exact p7 | exact fun _ => rfl), (by first | exact p8 | exact fun _ => rfl), (by first | exact p9 | exact fun _ => rfl), (by first | exact p10 | exact fun _ => rfl), (by first | exact p11 | exact fun _ => rfl), (fun _ => rfl), (by simp [h13]), (by simp [h15]), (by simp [h16]), (by simp [h17]), (by simp [h18]), (by simp [h19]), (by simpa using q2), (by simpa using q5), (by simpa using q8), (by simpa using q9), (by simpa using q10), (by simp [he]), (by simp [h13]), (by simp [h14]), (by simp [h15]), (by simp [h16]), (by simp [h17]), (by simp [h18]), (by simp [h19]), (by simpa [h13, h18, h19, h14, h15, h16, h17] using hS)⟩
                · have h14 : L 14 = false := by cases hh : L 14 with | false => rfl | true => (have hq := q14 hh; simp [hi] at hq)
                  have h18 : L 18 = false := by cases hh : L 18 with | false => rfl | true => (have hq := q18 hh; simp [hi] at hq)
                  have h19 : L 19 = false := by cases hh : L 19 with | false => rfl | true => (have hq := q19 hh; simp [hi] at hq)
                  have h15 : L 15 = false := by cases hh : L 15 with | false => rfl | true => (have hq := q15 hh; simp [h14] at hq)
                  have h16 : L 16 = false := by cases hh : L 16 with | false => rfl | true => (have hq := q16 hh; simp [h15] at hq)
                  have h17 : L 17 = false := by cases hh : L 17 with | false => rfl | true => (have hq := q17 hh; simp [h15] at hq)
                  obtain rfl := p5 (by simp [he])
                  obtain rfl := p10 (by simp [he])
                  obtain rfl := p12 (by simp [he])
                  refine wpOp_step rfl (fun K hK => ?_)
                  go_simp
                  exact hK _ _ ⟨_, _, _, _, _, _, _, _, _, _, _, _, _, _, _, _, _, _, _, _, rfl, (by first | exact p0 | exact fun _ => rfl), (by first | exact p1 | exact fun _ => rfl), (by first | exact p2 | exact fun _ => rfl), (by first | exact p3 | exact fun _ => rfl), (by first | exact p4 | exact fun _ => rfl), (by first | exact p5 | exact fun _ => rfl), (by first | exact p6 | exact fun _ => rfl), (by first | exact p7 | exact fun _ => rfl), (by first | exact p8 | exact fun _ => rfl), (by first | exact p9 | exact fun _ => rfl), (by first | exact p10 | exact fun _ => rfl), (by first | exact p11 | exact fun _ => rfl), (by first | exact p12 | exact fun _ => rfl), (fun _ => rfl), (by simp [h15]), (by simp [h16]), (by simp [h17]), (by simp [h18]), (by simp [h19]), (by simpa using q2), (by simpa using q5), (by simpa using q8), (by simpa using q9), (by simpa using q10), (by simpa using q12), (by simp [he]), (by simp [h14]), (by simp [h15]), (by simp [h16]), (by simp [h17]), (by simp [h18]), (by simp [h19]), (by simpa [h14, h18, h19, h15, h16, h17] using hS)⟩
                · have h15 : L 15 = false := by cases hh : L 15 with | false => rfl | true => (have hq := q15 hh; simp [hi] at hq)
                  have h18 : L 18 = false := by cases hh : L 18 with | false => rfl | true => (have hq := q18 hh; simp [hi] at hq)
                  have h19 : L 19 = false := by cases hh : L 19 with | false => rfl | true => (have hq := q19 hh; simp [hi] at hq)
                  have h16 : L 16 = false := by cases hh : L 16 with | false => rfl | true => (have hq := q16 hh; simp [h15] at hq)
                  have h17 : L 17 = false := by cases hh : L 17 with | false => rfl | true => (have hq := q17 hh; simp [h15] at hq)
                  obtain rfl := p2 (by simp [he])
                  obtain rfl := p13 (by simp [he])
                  rw [if_neg (by simp [hi])] at hS
                  refine wpOp_step rfl (fun K hK => ?_)
                  go_simp
                  refine (HPC.out w' hS).mono ?_; rintro en w5 ⟨A', c', cl, hfi, rfl, KK⟩
                  have hN := hS.join KK
                  exact hK _ _ ⟨_, _, _, _, _, _, _, _, _, _, _, _, _, _, _, _, _, _, _, _, rfl, (by first | exact p0 | exact fun _ => rfl), (by first | exact p1 | exact fun _ => rfl), (by first | exact p2 | exact fun _ => rfl), (by first | exact p3 | exact fun _ => rfl), (by first | exact p4 | exact fun _ => rfl), (by first | exact p5 | exact fun _ => rfl), (by first | exact p6 | exact fun _ => rfl), (by first | exact p7 | exact fun _ => rfl), (by first | exact p8 | exact fun _ => rfl), (by first | exact p9 | exact fun _ => rfl), (by first | exact p10 | exact fun _ => rfl), (by first | exact p11 | exact fun _ => rfl), (by first | exact p12 | exact fun _ => rfl), (by first | exact p13 | exact fun _ => rfl), (by simp [h15]), (by simp [h16]), (by simp [h17]), (by simp [h18]), (by simp [h19]), (by simpa using q2), (by simpa using q5), (by simpa using q8), (by simpa using q9), (by simpa using q10), (by simpa using q12), (by simpa using q13), (by simp [he]), (by simp [h15]), (by simp [h16]), (by simp [h17]), (by simp [h18]), (by simp [h19]), (by rw [if_pos (by simp)]; exact ⟨_, _, _, rfl, Lib.hid hfi, hN⟩)⟩
                · have h16 : L 16 = false := by cases hh : L 16 with | false => rfl | true => (have hq := q16 hh; simp [hi] at hq)
                  have h17 : L 17 = false := by cases hh : L 17 with | false => rfl | true => (have hq := q17 hh; simp [hi] at hq)
                  have h18 : L 18 = false := by cases hh : L 18 with | false => rfl | true => (have hq := q18 hh; simp [hi] at hq)
                  have h19 : L 19 = false := by cases hh : L 19 with | false => rfl | true => (have hq := q19 hh; simp [hi] at hq)
                  refine wpOp_step rfl (fun K hK => ?_)
                  go_simp
                  exact hK _ _ ⟨_, _, _, _, _, _, _, _, _, _, _, _, _, _, _, _, _, _, _, _, rfl, (by first | exact p0 | exact fun _ => rfl), (by first | exact p1 | exact fun _ => rfl), (by first | exact p2 | exact fun _ => rfl), (by first | exact p3 | exact fun _ => rfl), (by first | exact p4 | exact fun _ => rfl), (by first | exact p5 | exact fun _ => rfl), (by first | exact p6 | exact fun _ => rfl), (by first | exact p7 | exact fun _ => rfl), (by first | exact p8 | exact fun _ => rfl), (by first | exact p9 | exact fun _ => rfl), (by first | exact p10 | exact fun _ => rfl), (by first | exact p11 | exact fun _ => rfl), (by first | exact p12 | exact fun _ => rfl), (by first | exact p13 | exact fun _ => rfl), (fun _ => rfl), (by simp [h16]), (by simp [h17]), (by simp [h18]), (by simp [h19]), (by simpa using q2), (by simpa using q5), (by simpa using q8), (by simpa using q9), (by simpa using q10), (by simpa using q12), (by simpa using q13), (by simpa using q14), (by simp [he]), (by simp [h16]), (by simp [h17]), (by simp [h18]), (by simp [h19]), (by simpa [h16, h17, h18, h19] using hS)⟩
                · have h18 : L 18 = false := by cases hh : L 18 with | false => rfl | true => (have hq := q18 hh; simp [hi] at hq)
                  have h19 : L 19 = false := by cases hh : L 19 with | false => rfl | true => (have hq := q19 hh; simp [hi] at hq)
                  obtain rfl := p15 (by simp [he])
                  obtain ⟨v0, v1, e109⟩ : ∃ v0 v1 : Value, x94 = .tuple #[v0, v1] := by
                    rw [if_pos (by have z0 := q15 (by simp [he]); simpa using z0)] at hS
                    obtain ⟨_, _, _, e, _⟩ := hS
                    exact ⟨_, _, e⟩
                  subst e109
                  refine wpOp_step rfl (fun K hK => ?_)
                  go_simp
                  exact hK _ _ ⟨_, _, _, _, _, _, _, _, _, _, _, _, _, _, _, _, _, _, _, _, rfl, (by first | exact p0 | exact fun _ => rfl), (by first | exact p1 | exact fun _ => rfl), (by first | exact p2 | exact fun _ => rfl), (by first | exact p3 | exact fun _ => rfl), (by first | exact p4 | exact fun _ => rfl), (by first | exact p5 | exact fun _ => rfl), (by first | exact p6 | exact fun _ => rfl), (by first | exact p7 | exact fun _ => rfl), (by first | exact p8 | exact fun _ => rfl), (by first | exact p9 | exact fun _ => rfl), (by first | exact p10 | exact fun _ => rfl), (by first | exact p11 | exact fun _ => rfl), (by first | exact p12 | exact fun _ => rfl), (by first | exact p13 | exact fun _ => rfl), (by first | exact p15 | exact fun _ => rfl), (fun _ => rfl), (by first | exact p17 | exact fun _ => rfl), (by simp [h18]), (by simp [h19]), (by simpa using q2), (by simpa using q5), (by simpa using q8), (by simpa using q9), (by simpa using q10), (by simpa using q12), (by simpa using q13), (by simpa using q14), (by simpa using q15), (by simp [he]), (by simpa using q17), (by simp [h18]), (by simp [h19]), (by simpa [h18, h19] using hS)⟩
                · have h19 : L 19 = false := by cases hh : L 19 with | false => rfl | true => (have hq := q19 hh; simp [hi] at hq)
                  obtain rfl := p15 (by simp [he])
                  obtain ⟨v0, v1, e109⟩ : ∃ v0 v1 : Value, x94 = .tuple #[v0, v1] := by
                    rw [if_pos (by have z0 := q15 (by simp [he]); simpa using z0)] at hS
                    obtain ⟨_, _, _, e, _⟩ := hS
                    exact ⟨_, _, e⟩
                  subst e109
                  refine wpOp_step rfl (fun K hK => ?_)
                  go_simp
                  exact hK _ _ ⟨_, _, _, _, _, _, _, _, _, _, _, _, _, _, _, _, _, _, _, _, rfl, (by first | exact p0 | exact fun _ => rfl), (by first | exact p1 | exact fun _ => rfl), (by first | exact p2 | exact fun _ => rfl), (by first | exact p3 | exact fun _ => rfl), (by first | exact p4 | exact fun _ => rfl), (by first | exact p5 | exact fun _ => rfl), (by first | exact p6 | exact fun _ => rfl), (by first | exact p7 | exact fun _ => rfl), (by first | exact p8 | exact fun _ => rfl), (by first | exact p9 | exact fun _ => rfl), (by first | exact p10 | exact fun _ => rfl), (by first | exact p11 | exact fun _ => rfl), (by first | exact p12 | exact fun _ => rfl), (by first | exact p13 | exact fun _ => rfl), (by first | exact p15 | exact fun _ => rfl), (by first | exact p16 | exact fun _ => rfl), (fun _ => rfl), (by first | exact p18 | exact fun _ => rfl), (by simp [h19]), (by simpa using q2), (by simpa using q5), (by simpa using q8), (by simpa using q9), (by simpa using q10), (by simpa using q12), (by simpa using q13), (by simpa using q14), (by simpa using q15), (by simpa using q16), (by simp [he]), (by simpa using q18), (by simp [h19]), (by simpa [h19] using hS)⟩
                · have h19 : L 19 = false := by cases hh : L 19 with | false => rfl | true => (have hq := q19 hh; simp [hi] at hq)
                  obtain rfl := p16 (by simp [he])
                  refine wpOp_step rfl (fun K hK => ?_)
                  go_simp
                  exact hK _ _ ⟨_, _, _, _, _, _, _, _, _, _, _, _, _, _, _, _, _, _, _, _, rfl, (by first | exact p0 | exact fun _ => rfl), (by first | exact p1 | exact fun _ => rfl), (by first | exact p2 | exact fun _ => rfl), (by first | exact p3 | exact fun _ => rfl), (by first | exact p4 | exact fun _ => rfl), (by first | exact p5 | exact fun _ => rfl), (by first | exact p6 | exact fun _ => rfl), (by first | exact p7 | exact fun _ => rfl), (by first | exact p8 | exact fun _ => rfl), (by first | exact p9 | exact fun _ => rfl), (by first | exact p10 | exact fun _ => rfl), (by first | exact p11 | exact fun _ => rfl), (by first | exact p12 | exact fun _ => rfl), (by first | exact p13 | exact fun _ => rfl), (by first | exact p15 | exact fun _ => rfl), (by first | exact p16 | exact fun _ => rfl), (by first | exact p17 | exact fun _ => rfl), (fun _ => rfl), (by simp [h19]), (by simpa using q2), (by simpa using q5), (by simpa using q8), (by simpa using q9), (by simpa using q10), (by simpa using q12), (by simpa using q13), (by simpa using q14), (by simpa using q15), (by simpa using q16), (by simpa using q17), (by simp [he]), (by simp [h19]), (by simpa [h19] using hS)⟩
                · obtain rfl := p17 (by simp [he])
                  refine wpOp_step rfl (fun K hK => ?_)
                  go_simp
                  exact hK _ _ ⟨_, _, _, _, _, _, _, _, _, _, _, _, _, _, _, _, _, _, _, _, rfl, (by first | exact p0 | exact fun _ => rfl), (by first | exact p1 | exact fun _ => rfl), (by first | exact p2 | exact fun _ => rfl), (by first | exact p3 | exact fun _ => rfl), (by first | exact p4 | exact fun _ => rfl), (by first | exact p5 | exact fun _ => rfl), (by first | exact p6 | exact fun _ => rfl), (by first | exact p7 | exact fun _ => rfl), (by first | exact p8 | exact fun _ => rfl), (by first | exact p9 | exact fun _ => rfl), (by first | exact p10 | exact fun _ => rfl), (by first | exact p11 | exact fun _ => rfl), (by first | exact p12 | exact fun _ => rfl), (by first | exact p13 | exact fun _ => rfl), (by first | exact p15 | exact fun _ => rfl), (by first | exact p16 | exact fun _ => rfl), (by first | exact p17 | exact fun _ => rfl), (by first | exact p18 | exact fun _ => rfl), (fun _ => rfl), (by simpa using q2), (by simpa using q5), (by simpa using q8), (by simpa using q9), (by simpa using q10), (by simpa using q12), (by simpa using q13), (by simpa using q14), (by simpa using q15), (by simpa using q16), (by simpa using q17), (by simpa using q18), (by simp [he]), (by simpa using hS)⟩
              · rintro L ac w' ⟨x17, x18, x94, x95, x96, x97, x98, x99, x100, x101, x102, x103, x104, x105, x106, x107, x108, x109, x110, x111, ha, p0, p1, p2, p3, p4, p5, p6, p7, p8, p9, p10, p11, p12, p13, p15, p16, p17, p18, p19, q2, q5, q8, q9, q10, q12, q13, q14, q15, q16, q17, q18, q19, hS⟩ hall
                have t14 := hall 14 (by decide)
                rw [if_pos t14] at hS
                obtain ⟨A', c', cl, rfl, HFI, hS⟩ := hS
                obtain rfl := p0 (hall 0 (by decide))
                obtain rfl := p1 (hall 1 (by decide))
                obtain rfl := p2 (hall 2 (by decide))
                obtain rfl := p3 (hall 3 (by decide))
                obtain rfl := p4 (hall 4 (by decide))
                obtain rfl := p5 (hall 5 (by decide))
                obtain rfl := p6 (hall 6 (by decide))
                obtain rfl := p7 (hall 7 (by decide))
                obtain rfl := p8 (hall 8 (by decide))
                obtain rfl := p9 (hall 9 (by decide))
                obtain rfl := p10 (hall 10 (by decide))
                obtain rfl := p11 (hall 11 (by decide))
                obtain rfl := p12 (hall 12 (by decide))
                obtain rfl := p13 (hall 13 (by decide))
                obtain rfl := p15 (hall 15 (by decide))
                obtain rfl := p16 (hall 16 (by decide))
                obtain rfl := p17 (hall 17 (by decide))
                obtain rfl := p18 (hall 18 (by decide))
                obtain rfl := p19 (hall 19 (by decide))
                simp only [turn, List.foldl_cons, List.foldl_nil, List.setIfInBounds_toArray, List.set_cons_succ, List.set_cons_zero] at ha
                subst ha
                clear q2 q5 q8 q9 q10 q12 q13 q14 q15 q16 q17 q18 q19  t14
                rw [← HLX.out] at hS
                have HS9 := Lib.hid hS
                clear hS
                simp only [tupA_mk, tupB_mk]
                have H10 := Lib.hid (ll_up HS9.out HF4.out)
                clear HS9
                obtain ⟨e3, he3⟩ : ∃ e3, e + m = e3 := ⟨_, rfl⟩
                have HE3 := Lib.hid he3
                have v1 : (e : Int) + (m : Int) = (e3 : Int) := by omega
                have he3b : e3 ≤ 4096 := by have := HEM.out; omega
                clear he3
                obtain ⟨w5, hrun5, _, hN5⟩ := H10.out.store 2 rfl kint (wf4 HF4.out) Tryz.underlying52 (by simp only [maxLen]; omega) (.slice A' cl.length c' : Value)
                simp only [id] at hrun5
                have H5 := Lib.hid hN5
                clear hN5 H10
                have l5 := H5.out.look 3 rfl kint (wf4 HF4.out) Tryz.underlying53 (iz w5)
                rw [HEV.out f HF4.out, HEL.out] at l5
                have p5 : w5.cell? ⟨gx, 1, none⟩ = some (.int .i64 (m : Int)) := by
                  rw [← HWM.out]
                  exact H5.out.cell 8 rfl (k := 1) rfl
                obtain ⟨w6, hrun6, _, hN6⟩ := H5.out.store 3 rfl kint (wf4 HF4.out) Tryz.underlying53 (by simp only [maxLen]; omega) e3
                have hrun6' : (Instr.mapUpdate 53 (.map (some gE)) (.int .i64 (f : Int)) (.int .i64 (e3 : Int))).run Tryz.prog w5 = .ok () w6 := hrun6
                have H6 := Lib.hid hN6
                clear hN6 hrun6 H5
                go_wp2
                go_roundg (n - (k + 1))
                case measure => omega
                case rel =>
                  refine ⟨k + 1, l', upd fb f (List.range' at_ m), up fl f cl, mup hF (f : Int) (.slice A' cl.length c'), mup hE (f : Int) e3, _, _, up fA f A', up fc f c', by omega, rfl, by go_num, ?_, ?_, HPL2, Lib.hid HINV2.out, Lib.hid (fun g hg => ?_), Lib.hid (fun g hg => ?_), Lib.hid (fun g hg => ?_), H6.out.pick [0, 1, 2, 3, 4, 5, 6, 7] (by decide) (by simp [LL])⟩
                  · split <;> omega
                  · split <;> omega
                  · by_cases hgf : g = f
                    · subst hgf
                      rw [up_same, upd_same]
                      exact HFI.out
                    · rw [up_other _ _ hgf, upd_other _ _ hgf]
                      exact HFS.out g hg
                  · by_cases hgf : g = f
                    · subst hgf
                      rw [mup_same, up_same, up_same, up_same]
                      rfl
                    · rw [mup_other _ _ (by omega), up_other _ _ hgf, up_other _ _ hgf, up_other _ _ hgf]
                      exact HFV.out g hg
                  · by_cases hgf : g = f
                    · subst hgf
                      rw [mup_same, upd_same, List.length_append, List.length_range', HEL.out, HE3.out]
                      rfl
                    · rw [mup_other _ _ (by omega), upd_other _ _ hgf]
                      exact HEV.out g hg
          · obtain rfl : n = k := by omega
            have hLE : l = L := by
              have h := HPL.out
              rw [List.drop_of_length_le (by rw [HOL.out]; exact Nat.le_refl _), List.drop_of_length_le (by rw [HAL.out]; exact Nat.le_refl _)] at h
              exact congrArg Prod.snd h
            subst hLE
            have hall := inv_len HINV.out
            have HALL : Hid (∀ f, f < 4 → (fb f).length ≤ 200) := Lib.hid (fun f hf => by have := fb_len fb hf; omega)
            have H3 : Hid (Sep w wr (LL A1 n c1 an A2 nL c2 l gF nF hF gE nE hE fA fl fc ++ [.row 63 2 (.slice none 0 0) 0 []])) := Lib.hid (HS.out.nilRow 63 2 none)
            clear HS hlt hall HPL
            go_wp2
            generalize wr = wb at H3 ⊢
            go_loopg [19, 124] 4 (fun g v19 i wr => ∃ (f : Nat) (A9 : Option Addr) (c9 : Nat) (outs : List Fs.Cm), f ≤ 4 ∧ g = 4 - f ∧ i = .int .i64 (f : Int) ∧ v19 = .slice A9 f c9 ∧ Hid (outs.length = f) ∧ Hid (Fs.flat (outs.map Fs.Cm.p) = FAf fb f) ∧ Sep w wr (LL A1 n c1 an A2 nL c2 l gF nF hF gE nE hE fA fl fc ++ (.row 63 2 (.slice A9 f c9) f (outs.flatMap Fs.Cm.cells) :: outs.map Fs.Cm.row)))
            case atStart => exact ⟨0, none, 0, [], by omega, rfl, rfl, rfl, Lib.hid rfl, Lib.hid rfl, H3.out⟩
            case round =>
              clear H3
              obtain ⟨f, A9, c9, outs, hf, rfl, rfl, rfl, HOUT, HFA, hs⟩ := hrel
              have HS := Lib.hid hs
              clear hs
              by_cases hlt : f < 4
              · have i3 : (f : Int) < 4 := by omega
                have HF4 := Lib.hid hlt
                have he200 := HALL.out f hlt
                obtain ⟨e, he⟩ : ∃ e, (fb f).length = e := ⟨_, rfl⟩
                rw [he] at he200
                have HEL := Lib.hid he
                have HS2 : Hid (Sep w (wr.alloc (.cells #[.int .i64 (f : Int), .slice none 0 0] 63)) (LL A1 n c1 an A2 nL c2 l gF nF hF gE nE hE fA fl fc ++ (.cells wr.heap.size 63 [.int .i64 (f : Int), .slice none 0 0] :: .row 3 1 (.slice none 0 0) 0 [] :: .row 63 2 (.slice A9 f c9) f (outs.flatMap Fs.Cm.cells) :: outs.map Fs.Cm.row))) := Lib.hid (((HS.out.new 63 [.int .i64 (f : Int), .slice none 0 0]).nilRow 3 1 none).perm (perm_in _ _ _ _))
                clear HS he
                go_upto_region 35 with (fail)
                generalize wr.alloc (.cells #[.int .i64 (f : Int), .slice none 0 0] 63) = wo at HS2 ⊢
                generalize wr.heap.size = gx at HS2 ⊢
                have l5 := HS2.out.look 3 rfl kint (wf4 hlt) Tryz.underlying53 (iz wo)
                rw [HEV.out f hlt, HEL.out] at l5
                go_wp2
                clear l5
                go_loopg [132] e (fun g i wl => ∃ (j : Nat) (Ab : Option Addr) (cb : Nat), j ≤ e ∧ g = e - j ∧ i = .int .i64 (j : Int) ∧ Sep w wl (LL A1 n c1 an A2 nL c2 l gF nF hF gE nE hE fA fl fc ++ (.cells gx 63 [.int .i64 (f : Int), .slice Ab j cb] :: .row 3 1 (.slice Ab j cb) j ((((fb f).take j).map fun (x : Nat) => (x : Int)).flatMap icell) :: .row 63 2 (.slice A9 f c9) f (outs.flatMap Fs.Cm.cells) :: outs.map Fs.Cm.row)))
                case atStart => exact ⟨0, none, 0, Nat.zero_le _, rfl, rfl, HS2.out⟩
                case round =>
                  clear HS2
                  obtain ⟨j, Ab, cb, hj, rfl, rfl, hs⟩ := hrel
                  have HS := Lib.hid hs
                  clear hs
                  by_cases hlj : j < e
                  · have i4 : (j : Int) < (e : Int) := by omega
                    obtain ⟨y, hy⟩ : ∃ y, (fb f)[j]? = some y := ⟨_, List.getElem?_eq_getElem (by rw [HEL.out]; exact hlj)⟩
                    have l5 := HS.out.look 2 rfl kint (wf4 HF4.out) Tryz.underlying52 (rz wr)
                    rw [HFV.out f HF4.out] at l5
                    have hfi := HFS.out f HF4.out
                    have hfd := fi_find hfi hy
                    have hlen := nf_len (B := 4096) (fl f) none 0 hfi.nf (fun r t e' => (hfi.ed r (by rw [e']; simp)).1) (fun q hq => by have := (hfi.ed q hq).2; rw [HEL.out] at this; omega) (by omega)
                    have cF := Lib.hid (Runs.find_any (fA f) (fl f).length (fc f) (fl f) (j : Int) wr (ll_row HS.out HF4.out).1 rfl (by omega) (by omega) (by omega))
                    rw [hfd] at cF
                    have HTK : Hid ((((fb f).take (j + 1)).map fun (x : Nat) => (x : Int)).flatMap icell = (((fb f).take j).map fun (x : Nat) => (x : Int)).flatMap icell ++ [.int .i64 (y : Int)]) := Lib.hid (by
                      rw [List.take_add_one, hy, List.map_append, List.flatMap_append]
                      rfl)
                    clear hfi hfd hlen hy
                    go_wp2_with fail
                    refine cF.out.mono ?_; rintro en w5 ⟨rfl, hb5⟩
                    have H5 := Lib.hid (HS.out.later hb5)
                    clear hb5 cF HS l5
                    have p1 := H5.out.cell 8 rfl (k := 1) rfl
                    have hnew := Lib.hid (Rd.of_own (own_new w5 3 #[.int .i64 (y : Int)] 1 1 rfl (by simp [maxLen]) (Nat.le_refl _)))
                    go_wp2_with (at_builtin; refine wpList_append_sep (H5.out.alloc _) 9 rfl (.tmp 146) (.tmp 148) 24 rfl 3 tj (.int .i64 0) 1 8 Tryz.underlying24 htj j0 j1 j2 rfl (by omega) _ j _ rfl rfl _ _ 1 1 _ rfl hnew.out (by simp [Value.oneCell']) (by simp only [maxLen]; omega) (by omega) ?_; intro A6 c6 w6 hc6 hs6 H6'; have H6 := Lib.hid H6'; clear H6' hs6 p1; have e0 := H6.out.cell 8 rfl (k := 1) rfl; have u0 := H6.out.froz 8 rfl (k := 1))
                    have H7 := Lib.hid (H6.out.set 8 rfl (k := 1) (.slice A6 (j + 1) c6))
                    clear H6 e0 u0 H5
                    go_roundg (e - (j + 1))
                    case measure => omega
                    case rel => exact ⟨j + 1, A6, c6, by omega, rfl, by go_num, by rw [HTK.out]; exact H7.out⟩
                  · obtain rfl : j = e := by omega
                    have HTK : Hid ((fb f).take j = fb f) := Lib.hid (List.take_of_length_le (by rw [HEL.out]; exact Nat.le_refl _))
                    have p0 := HS.out.cell 8 rfl (k := 0) rfl
                    have p1 := HS.out.cell 8 rfl (k := 1) rfl
                    have hnew := Lib.hid (Rd.of_own (own_new wr 63 #[.int .i64 (f : Int), .slice Ab j cb] 2 1 rfl (by simp [maxLen]) (Nat.le_refl _)))
                    go_wp2_with (at_builtin; refine wpList_append_sep (HS.out.alloc _) 10 rfl (.tmp 152) (.tmp 154) 61 rfl 63 tk (.agg #[.int .i64 0, .slice none 0 0]) 2 32 Tryz.underlying61 htk k0 k1 k2 rfl (by omega) _ f _ rfl rfl _ _ 1 1 _ rfl hnew.out (by simp [Value.oneCell']) (by simp only [maxLen]; omega) (by omega) ?_; intro A8 c8 w8 hc8 hs8 H8'; have H8 := Lib.hid H8'; clear H8' hs8)
                    go_roundg (4 - (f + 1))
                    case measure => omega
                    case rel =>
                      refine ⟨f + 1, A8, c8, outs ++ [⟨(f : Int), Ab, j, cb, (fb f).map fun (x : Nat) => (x : Int)⟩], by omega, rfl, by go_num, rfl, Lib.hid (by rw [List.length_append, HOUT.out]; rfl), Lib.hid ?_, ?_⟩
                      · rw [Fs.flat_p_snoc, HFA.out, FAf_succ]
                      · have h : Sep w w8 (LL A1 n c1 an A2 nL c2 l gF nF hF gE nE hE fA fl fc ++ (.cells gx 63 [.int .i64 (f : Int), .slice Ab j cb] :: .row 3 1 (.slice Ab j cb) j ((((fb f).take j).map fun (x : Nat) => (x : Int)).flatMap icell) :: .row 63 2 (.slice A8 (f + 1) c8) (f + 1) (outs.flatMap Fs.Cm.cells ++ [.int .i64 (f : Int), .slice Ab j cb]) :: outs.map Fs.Cm.row)) := H8.out
                        rw [HTK.out] at h
                        rw [List.flatMap_append, List.map_append]
                        refine Sep.perm (Sep.sub h (List.Sublist.append_left (List.sublist_cons_self _ _) _)) ?_
                        exact List.Perm.append_left _ (List.perm_append_singleton _ (_ :: _))
              · obtain rfl : f = 4 := by omega
                obtain ⟨o0, o1, o2, o3, rfl⟩ : ∃ o0 o1 o2 o3 : Fs.Cm, outs = [o0, o1, o2, o3] := by
                  match outs, HOUT.out with
                  | [a, b, c, d], _ => exact ⟨a, b, c, d, rfl⟩
                have HFA2 : Hid (Fs.flat ([o0, o1, o2, o3].map Fs.Cm.p) = FA fb) := Lib.hid (by rw [HFA.out, FAf_all])
                have H4 : Hid (Sep w wr ((LL A1 n c1 an A2 nL c2 l gF nF hF gE nE hE fA fl fc ++ (.row 63 2 (.slice A9 4 c9) 4 ([o0, o1, o2, o3].flatMap Fs.Cm.cells) :: [o0, o1, o2, o3].map Fs.Cm.row)) ++ [.row 3 1 (.slice none 0 0) 0 []])) := Lib.hid (HS.out.nilRow 3 1 none)
                have hmf : ∀ (fn : Fn) (first cap : Array Value) (w : World), (Instr.makeFunc fn first cap).run Tryz.prog w = .ok (.func fn first cap) w := fun _ _ _ _ => rfl
                have HGB : Hid (∀ x ∈ l, x.a + x.m ≤ 4096) := Lib.hid (fun x hx => by have := (Sp.ok_mem HINV.out.ok x hx).2; omega)
                clear HS HFA HOUT HFS HFV HEV HALL hlt
                go_wp2
                generalize wr = wb at H4 ⊢
                go_loopg [25, 158] S (fun g v25 i wr => ∃ (b mm : Nat) (A5 : Option Addr) (c5 : Nat), b ≤ S ∧ g = S - b ∧ i = .int .i64 (b : Int) ∧ mm ≤ b ∧ Hid ((Fk.mk (pm l) b).length = mm) ∧ v25 = .slice A5 mm c5 ∧ Sep w wr ((LL A1 n c1 an A2 nL c2 l gF nF hF gE nE hE fA fl fc ++ (.row 63 2 (.slice A9 4 c9) 4 ([o0, o1, o2, o3].flatMap Fs.Cm.cells) :: [o0, o1, o2, o3].map Fs.Cm.row)) ++ [.row 3 1 (.slice A5 mm c5) mm ((Fk.mk (pm l) b).flatMap icell)]))
                case atStart => exact ⟨0, 0, none, 0, Nat.zero_le _, rfl, rfl, Nat.le_refl _, Lib.hid rfl, rfl, H4.out⟩
                case round =>
                  clear H4
                  obtain ⟨b, mm, A5, c5, hb, rfl, rfl, hmm, HMM, rfl, hs⟩ := hrel
                  have HS := Lib.hid hs
                  clear hs
                  by_cases hlt : b < S
                  · have i3 : (b : Int) < (S : Int) := by omega
                    have HS2 := Lib.hid (HS.out.new 3 [.int .i64 (b : Int)])
                    obtain ⟨bv, hbv⟩ : ∃ bv, Sp.mem l b = bv := ⟨_, rfl⟩
                    have HBV := Lib.hid hbv
                    clear HS hbv
                    go_upto_region 49 with (fail)
                    change Hid (Sep w (wr.alloc (.cells #[.int .i64 (b : Int)] 3)) _) at HS2
                    generalize wr.alloc (.cells #[.int .i64 (b : Int)] 3) = wo at HS2 ⊢
                    generalize wr.heap.size = gx at HS2 ⊢
                    have p0 := HS2.out.cell 14 rfl (k := 0) rfl
                    have cB := Lib.hid (contains_any A2 nL c2 gx b l wo (HS2.out.rd 1 rfl) HNL.out (by omega) p0 HGB.out)
                    rw [HBV.out] at cB
                    go_wp2_with fail
                    refine cB.out.mono ?_; rintro en w5 ⟨rfl, hb5⟩
                    have H5 := Lib.hid (HS2.out.later hb5)
                    clear hb5 cB HS2 p0
                    cases bv with
                    | true =>
                      have HMK : Hid (Fk.mk (pm l) (b + 1) = Fk.mk (pm l) b) := Lib.hid (Fk.mk_no (by unfold pm; rw [Int.toNat_natCast, HBV.out]; rfl))
                      go_wp2
                      go_roundg (S - (b + 1))
                      case measure => omega
                      case rel => exact ⟨b + 1, mm, A5, c5, by omega, rfl, by go_num, by omega, Lib.hid (by rw [HMK.out, HMM.out]), rfl, by rw [HMK.out]; exact H5.out.pick [0, 1, 2, 3, 4, 5, 6, 7, 8, 9, 10, 11, 12, 13] (by decide) (by simp [LL])⟩
                    | false =>
                      have HMK : Hid (Fk.mk (pm l) (b + 1) = Fk.mk (pm l) b ++ [(b : Int)]) := Lib.hid (Fk.mk_yes (by unfold pm; rw [Int.toNat_natCast, HBV.out]; rfl))
                      have p0 := H5.out.cell 14 rfl (k := 0) rfl
                      have hnew := Lib.hid (Rd.of_own (own_new w5 3 #[.int .i64 (b : Int)] 1 1 rfl (by simp [maxLen]) (Nat.le_refl _)))
                      go_wp2_with (at_builtin; refine wpList_append_sep (H5.out.alloc _) 13 rfl (.tmp 165) (.tmp 167) 24 rfl 3 tj (.int .i64 0) 1 8 Tryz.underlying24 htj j0 j1 j2 rfl (by omega) _ mm _ rfl rfl _ _ 1 1 _ rfl hnew.out (by simp [Value.oneCell']) (by simp only [maxLen]; omega) (by omega) ?_; intro A6 c6 w6 hc6 hs6 H6'; have H6 := Lib.hid H6'; clear H6' hs6)
                      go_roundg (S - (b + 1))
                      case measure => omega
                      case rel => exact ⟨b + 1, mm + 1, A6, c6, by omega, rfl, by go_num, by omega, Lib.hid (by rw [HMK.out, List.length_append, HMM.out]; rfl), rfl, by
                        have h := H6.out.pick [0, 1, 2, 3, 4, 5, 6, 7, 8, 9, 10, 11, 12, 13] (by decide) (by simp [LL])
                        rw [HMK.out, List.flatMap_append]
                        exact h⟩
                  · obtain rfl : b = S := by omega
                    have hcl : Fs.CL wr A9 4 [o0, o1, o2, o3] := by
                      refine Fs.CL_of (w0 := w) (c := c9) (J := []) ?_
                      rw [List.append_nil]
                      exact HS.out.pick [8, 9, 10, 11, 12] (by decide) (by simp [LL])
                    have hfal : (FA fb).length ≤ 200 := by
                      unfold FA
                      rw [List.length_map]
                      have := inv_len HINV.out
                      omega
                    have cC := Lib.hid (Fk.check_ok b A9 A5 4 c9 mm c5 (Fk.mk (pm l) b) (FA fb) [o0, o1, o2, o3] wr (HS.out.rd 13 rfl) HMM.out (by omega) (by rw [Fs.okB_yes (by omega) (by omega) (by omega), marks_ok]; rfl) hcl (by omega) (by omega) HFA2.out (by omega) (fun x hx => by
                      obtain ⟨y, rfl, hy⟩ := fa_mem.1 hx
                      have := ((HINV.out.mem y).1 hy).1
                      exact WalkArith.wf_i64 (by omega)) (fun y hy => ((Fk.mk_mem y).1 hy).1))
                    have HB := Lib.hid HS.out.below
                    clear hcl hfal HS hlt
                    go_wp2_with fail
                    refine cC.out.mono ?_; rintro en w5 ⟨v, T, rfl, HT, hb5, hfv⟩
                    obtain ⟨f1, f2, f3, f4⟩ := clean HINV.out HT.out.2
                    rw [f1, f2, f3, f4] at hfv
                    obtain ⟨B0, n0, d0, B1, n1, d1, B2, n2, d2, B3, n3, d3, rfl, g0, g1, g2, g3⟩ := hfv
                    obtain rfl : n0 = 0 := g0.2.symm
                    obtain rfl : n1 = 0 := g1.2.symm
                    obtain rfl : n2 = 0 := g2.2.symm
                    obtain rfl : n3 = 0 := g3.2.symm
                    have HB5 := Lib.hid (HB.out.trans (hb5.mono HB.out.size))
                    clear cC HB hb5 f1 f2 f3 f4 g0 g1 g2 g3
                    have hS9 := (Sep.nil_ w5).new 69 [.slice B0 0 d0, .slice B1 0 d1, .slice B2 0 d2, .slice B3 0 d3]
                    have S9 := Lib.hid hS9
                    have p0 := hS9.cell 0 rfl (k := 0) rfl
                    have p1 := hS9.cell 0 rfl (k := 1) rfl
                    have p2 := hS9.cell 0 rfl (k := 2) rfl
                    have p3 := hS9.cell 0 rfl (k := 3) rfl
                    have cL := Lib.hid (fun W => Fk.clean_gen B0 0 d0 B1 0 d1 B2 0 d2 B3 0 d3 W (by omega) (by omega) (by omega) (by omega))
                    clear hS9
                    go_wp2_with fail
                    refine (cL.out _).mono ?_; rintro en w6 ⟨rfl, hb6⟩
                    have HF := Lib.hid (HB5.out.trans ((S9.out.below.trans (hb6.mono S9.out.below.size)).mono HB5.out.size))
                    clear hb6 cL S9
                    go_wp2
                    go_ret
                    exact Ret.mk rfl HF.out
  · clear hr
    by_cases h1 : sz < 1
    · go_enter Tryz.func4, Tryz.ntmps4
      go_wp2_with fail
      refine cA.out.mono ?_; rintro en w1 ⟨rfl, hb1⟩
      have B1 := Lib.hid hb1
      clear hb1 cA
      go_wp2
      go_ret
      exact Ret.mk rfl B1.out
    · by_cases h2 : 200 < sz
      · go_enter Tryz.func4, Tryz.ntmps4
        go_wp2_with fail
        refine cA.out.mono ?_; rintro en w1 ⟨rfl, hb1⟩
        have B1 := Lib.hid hb1
        clear hb1 cA
        go_wp2
        go_ret
        exact Ret.mk rfl B1.out
      · have h3 : (60 : Int) < (n : Int) := by omega
        clear hout
        go_enter Tryz.func4, Tryz.ntmps4
        go_wp2_with fail
        refine cA.out.mono ?_; rintro en w1 ⟨rfl, hb1⟩
        have B1 := Lib.hid hb1
        clear hb1 cA
        go_wp2
        go_ret
        exact Ret.mk rfl B1.out
end Sd
end Go.Proofs.YtjopiepfjbnkbaaGreatDoor
