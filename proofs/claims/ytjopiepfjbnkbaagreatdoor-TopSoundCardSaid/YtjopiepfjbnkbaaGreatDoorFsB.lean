/-
  Base texts in one: FsM, FsW, FsW2. Conditions: none beyond each theorem's own premises.
-/
import Derived.Test.YtjopiepfjbnkbaaGreatDoorBase
import Derived.Test.YtjopiepfjbnkbaaGreatDoorMap
/-! The plain law of repairing claims: who is first has a block; the marks, in order. Conditions: none beyond each theorem's own premises. -/
namespace Go.Proofs.YtjopiepfjbnkbaaGreatDoor
set_option linter.unusedVariables false
namespace Fs
/-- the blocks of one claim that stay -/
def keepB (z : Int) (K : List Int) : List Int → List Int
  | [] => []
  | b :: t => if 0 ≤ b ∧ b < z ∧ b ∉ K then b :: keepB z (K ++ [b]) t else keepB z K t
def rep (z : Int) (K : List Int) : List (Int × List Int) → List (Int × List Int)
  | [] => []
  | p :: t => (p.1, keepB z K p.2) :: rep z (K ++ keepB z K p.2) t
def flat (l : List (Int × List Int)) : List Int := l.flatMap (·.2)
def rightF (z last : Int) : List Int → Bool
  | [] => true
  | m :: t => (decide (last < m) && decide (m < z)) && rightF z m t
def Good (z : Int) (K : List Int) : Prop := K.Nodup ∧ ∀ x ∈ K, 0 ≤ x ∧ x < z
theorem Good.nil (z : Int) : Good z [] := ⟨List.nodup_nil, by simp⟩
theorem Good.snoc {z b : Int} {K : List Int} (h : Good z K) (hb : 0 ≤ b ∧ b < z ∧ b ∉ K) : Good z (K ++ [b]) :=
  ⟨List.nodup_append.2 ⟨h.1, by simp, fun x hx y hy e => by simp at hy; subst hy; subst e; exact hb.2.2 hx⟩, fun x hx => by
    rcases List.mem_append.1 hx with h1 | h1
    · exact h.2 x h1
    · simp at h1; subst h1; exact ⟨hb.1, hb.2.1⟩⟩
theorem Good.keep {z : Int} : ∀ (l : List Int) {K : List Int}, Good z K → Good z (K ++ keepB z K l)
  | [], K, h => by simpa [keepB] using h
  | b :: t, K, h => by
    rw [keepB]
    split
    · rename_i hb
      have := Good.keep t (h.snoc hb)
      simpa [List.append_assoc] using this
    · exact Good.keep t h
theorem nodup_le : ∀ (n : Nat) (K : List Int), K.Nodup → (∀ x ∈ K, 0 ≤ x ∧ x < (n : Int)) → K.length ≤ n := by
  intro n
  induction n with
  | zero =>
    intro K _ h
    cases K with
    | nil => simp
    | cons x t => have := h x (by simp); omega
  | succ n ih =>
    intro K hn h
    by_cases hm : (n : Int) ∈ K
    · have h1 := ih (K.erase (n : Int)) (hn.erase _) (fun x hx => by
        have h2 := (hn.mem_erase_iff).1 hx
        have h3 := h x h2.2
        omega)
      have h2 := List.length_erase_of_mem hm
      omega
    · have h1 := ih K hn (fun x hx => by
        have h3 := h x hx
        have : x ≠ (n : Int) := fun e => hm (e ▸ hx)
        omega)
      omega
theorem Good.len {z : Int} {K : List Int} (h : Good z K) (hz : z ≤ 4096) : K.length ≤ 4096 := by
  refine nodup_le 4096 K h.1 fun x hx => ?_
  have := h.2 x hx
  omega
/-- the marks below g -/
def marks (K : List Int) (g : Nat) : List Int := ((List.range g).filter fun b : Nat => decide ((b : Int) ∈ K)).map fun b : Nat => (b : Int)
theorem marks_yes {K : List Int} {g : Nat} (h : (g : Int) ∈ K) : marks K (g + 1) = marks K g ++ [(g : Int)] := by
  simp [marks, List.range_succ, h]
theorem marks_no {K : List Int} {g : Nat} (h : (g : Int) ∉ K) : marks K (g + 1) = marks K g := by
  simp [marks, List.range_succ, h]
theorem marks_len (K : List Int) (g : Nat) : (marks K g).length ≤ g := by
  unfold marks
  rw [List.length_map]
  exact Nat.le_trans (List.length_filter_le _ _) (by simp)
theorem marks_mem {K : List Int} {z : Nat} (h : Good (z : Int) K) (x : Int) : x ∈ marks K z ↔ x ∈ K := by
  simp only [marks, List.mem_map, List.mem_filter, List.mem_range, decide_eq_true_eq]
  constructor
  · rintro ⟨b, ⟨_, hb⟩, rfl⟩
    exact hb
  · intro hx
    have := h.2 x hx
    exact ⟨x.toNat, ⟨by omega, by rw [Int.toNat_of_nonneg this.1]; exact hx⟩, Int.toNat_of_nonneg this.1⟩
theorem marks_od (K : List Int) (z : Nat) : (marks K z).Pairwise (· < ·) := by
  unfold marks
  refine List.pairwise_map.2 ?_
  refine (List.Pairwise.filter _ List.pairwise_lt_range).imp ?_
  intro a b h
  omega
theorem marks_sorted {K ss : List Int} {z : Nat} (h : Good (z : Int) K) (hp : ss.Perm K) : ss.mergeSort (fun x y => decide (x ≤ y)) = marks K z := by
  have hn : (marks K z).Nodup := (marks_od K z).imp (fun h e => by omega)
  have hp2 : (marks K z).Perm K := (List.perm_ext_iff_of_nodup hn h.1).2 fun x => marks_mem h x
  refine List.Perm.eq_of_pairwise (le := fun a b : Int => a ≤ b) (fun a b _ _ h1 h2 => by omega) ?_ ((marks_od K z).imp (fun h => by omega)) (((List.mergeSort_perm ss _).trans hp).trans hp2.symm)
  have := List.pairwise_mergeSort (le := fun x y : Int => decide (x ≤ y)) (fun a b c h1 h2 => by simp at *; omega) (fun a b => by simp; omega) ss
  exact this.imp (fun h => by simpa using h)
theorem flat_snoc (l : List (Int × List Int)) (p : Int × List Int) : flat (l ++ [p]) = flat l ++ p.2 := by simp [flat]
theorem rep_len (z : Int) : ∀ (l : List (Int × List Int)) (K : List Int), (rep z K l).length = l.length
  | [], K => rfl
  | p :: t, K => by rw [rep, List.length_cons, rep_len z t, List.length_cons]
/-- the outer loop's word: so far 'out', the rest is to come -/
def RTo (z : Int) (l : List (Int × List Int)) (k : Nat) (out : List (Int × List Int)) : Prop := rep z [] l = out ++ rep z (flat out) (l.drop k)
theorem RTo.zero (z : Int) (l : List (Int × List Int)) : RTo z l 0 [] := rfl
theorem RTo.next {z : Int} {l : List (Int × List Int)} {k : Nat} {out : List (Int × List Int)} (h : RTo z l k out) {p : Int × List Int} (hp : l[k]? = some p) : RTo z l (k + 1) (out ++ [(p.1, keepB z (flat out) p.2)]) := by
  unfold RTo at *
  obtain ⟨hl, e⟩ := List.getElem?_eq_some_iff.1 hp
  rw [h, List.drop_eq_getElem_cons hl, e, rep, flat_snoc]
  simp
theorem RTo.done {z : Int} {l : List (Int × List Int)} {out : List (Int × List Int)} (h : RTo z l l.length out) : out = rep z [] l := by
  unfold RTo at h
  rw [List.drop_length, rep, List.append_nil] at h
  exact h.symm
/-- the inner loop's word -/
def KTo (z : Int) (K bs : List Int) (j : Nat) (cur : List Int) : Prop := keepB z K bs = cur ++ keepB z (K ++ cur) (bs.drop j)
theorem KTo.zero (z : Int) (K bs : List Int) : KTo z K bs 0 [] := by simp [KTo]
theorem KTo.yes {z : Int} {K bs cur : List Int} {j : Nat} (h : KTo z K bs j cur) {b : Int} (hb : bs[j]? = some b) (h1 : 0 ≤ b ∧ b < z ∧ b ∉ K ++ cur) : KTo z K bs (j + 1) (cur ++ [b]) := by
  unfold KTo at *
  obtain ⟨hl, e⟩ := List.getElem?_eq_some_iff.1 hb
  rw [h, List.drop_eq_getElem_cons hl, e, keepB, if_pos h1]
  simp
theorem KTo.no {z : Int} {K bs cur : List Int} {j : Nat} (h : KTo z K bs j cur) {b : Int} (hb : bs[j]? = some b) (h1 : ¬ (0 ≤ b ∧ b < z ∧ b ∉ K ++ cur)) : KTo z K bs (j + 1) cur := by
  unfold KTo at *
  obtain ⟨hl, e⟩ := List.getElem?_eq_some_iff.1 hb
  rw [h, List.drop_eq_getElem_cons hl, e, keepB, if_neg h1]
theorem KTo.done {z : Int} {K bs cur : List Int} (h : KTo z K bs bs.length cur) : cur = keepB z K bs := by
  unfold KTo at h
  rw [List.drop_length, keepB, List.append_nil] at h
  exact h.symm
/-- how often a block is claimed -/
def cnt (l : List (Int × List Int)) (b : Int) : Nat := (flat l).count b
theorem rightF_step {z last : Int} {l : List Int} {k : Nat} {m : Int} (hm : l[k]? = some m) : rightF z last (l.drop k) = ((decide (last < m) && decide (m < z)) && rightF z m (l.drop (k + 1))) := by
  obtain ⟨hl, e⟩ := List.getElem?_eq_some_iff.1 hm
  rw [List.drop_eq_getElem_cons hl, e, rightF]
theorem rightF_end {z last : Int} {l : List Int} : rightF z last (l.drop l.length) = true := by rw [List.drop_length, rightF]
end Fs
end Go.Proofs.YtjopiepfjbnkbaaGreatDoor
/-! Walks of fsck.Right and the reference's URight, UCount, USame. Conditions: none beyond each theorem's own premises. -/
namespace Go.Proofs.YtjopiepfjbnkbaaGreatDoor
open Go.RowKit
set_option linter.unusedVariables false
namespace Fs

structure Cm where
  file : Int
  A : Option Addr
  n : Nat
  c : Nat
  bs : List Int
def Cm.cells (x : Cm) : List Value := [.int .i64 x.file, .slice x.A x.n x.c]
theorem Cm.len : ∀ x : Cm, x.cells.length = 2 := fun _ => rfl
def Cm.p (x : Cm) : Int × List Int := (x.file, x.bs)
def Cm.ok (w : World) (x : Cm) : Prop := Rd w w.heap.size 1 x.A x.n (x.bs.flatMap icell) ∧ x.bs.length = x.n ∧ x.n ≤ maxLen
theorem Cm.ok.later {w w' : World} {x : Cm} (h : x.ok w) (hb : Below w.heap.size w w') : x.ok w' := ⟨h.1.later hb, h.2⟩
theorem Cm.facts {w wr : World} {b off Bd k : Nat} {l : List Cm} {x : Cm} (hb : b < Bd) (hB : Below Bd w wr) (hc : ∀ (i j : Nat) (x : Cm) (u : Value), l[i]? = some x → x.cells[j]? = some u → w.cell? ⟨b, off + (i * 2 + j), none⟩ = some u)
    (hx : l[k]? = some x) : wr.cell? ⟨b, off + k * 2, none⟩ = some (.int .i64 x.file) ∧ wr.cell? ⟨b, off + k * 2 + 1, none⟩ = some (.slice x.A x.n x.c) :=
  ⟨(hB.cell hb).trans (hc k 0 x _ hx rfl), (hB.cell hb).trans (hc k 1 x _ hx rfl)⟩
theorem ifact {w wr : World} {b off Bd k : Nat} {l : List Int} {x : Int} (hb : b < Bd) (hB : Below Bd w wr) (hc : ∀ (i j : Nat) (x : Int) (u : Value), l[i]? = some x → (icell x)[j]? = some u → w.cell? ⟨b, off + (i * 1 + j), none⟩ = some u)
    (hx : l[k]? = some x) : wr.cell? ⟨b, off + k, none⟩ = some (.int .i64 x) := by
  have := hc k 0 x _ hx rfl
  rw [Nat.mul_one] at this
  exact (hB.cell hb).trans this
/-- a list of claims that can be read -/
structure CL (w : World) (A : Option Addr) (n : Nat) (l : List Cm) : Prop where
  rd : Rd w w.heap.size 2 A n (l.flatMap Cm.cells)
  len : l.length = n
  ok : ∀ x ∈ l, x.ok w
theorem CL.later {w w' : World} {A : Option Addr} {n : Nat} {l : List Cm} (h : CL w A n l) (hb : Below w.heap.size w w') : CL w' A n l := ⟨h.rd.later hb, h.len, fun x hx => (h.ok x hx).later hb⟩

def okB (z : Int) (n : Nat) : Bool := (decide (0 ≤ z) && decide (z ≤ 4096)) && decide (n ≤ 400)
theorem okB_lo {z : Int} {n : Nat} (h : ¬ 0 ≤ z) : okB z n = false := by simp [okB, h]
theorem okB_hi {z : Int} {n : Nat} (h : ¬ z ≤ 4096) : okB z n = false := by simp [okB, h]
theorem okB_many {z : Int} {n : Nat} (h : ¬ n ≤ 400) : okB z n = false := by simp [okB, h]
theorem okB_yes {z : Int} {n : Nat} (h : 0 ≤ z) (h1 : z ≤ 4096) (h2 : n ≤ 400) : okB z n = true := by simp [okB, h, h1, h2]

set_option maxHeartbeats 800000 in
theorem right_any (z : Int) (A A' : Option Addr) (m c' n c : Nat) (ms : List Int) (w : World) (hr : Rd w w.heap.size 1 A n (ms.flatMap icell)) (hl : ms.length = n) (hn : n ≤ 9223372036854775807) :
    Calls Tryz.prog 33 #[.int .i64 z, .slice A' m c', .slice A n c] w (Ret w (.bool (okB z m && rightF z (-1) ms))) := by
  have HR := Lib.hid hr
  have HL := Lib.hid hl
  clear hr hl
  by_cases h0 : 0 ≤ z
  case neg =>
    rw [okB_lo h0]
    have h0' : z < 0 := by omega
    go_enter Tryz.func33, Tryz.ntmps33
    go_wp2
    go_ret
    exact Ret.mk rfl (by repeat (first | with_reducible refine Below.setCell ?_ (by first | (simp; done) | (simp; omega)) _ | with_reducible assumption | with_reducible exact Below.refl _ _ | with_reducible refine Below.alloc ?_ (by first | omega | (simp; done) | (simp; omega)) _ | with_reducible refine Below.drew ?_))
  by_cases h1 : z ≤ 4096
  case neg =>
    rw [okB_hi h1]
    have h0' : ¬ z < 0 := by omega
    have h1' : z > 4096 := by omega
    go_enter Tryz.func33, Tryz.ntmps33
    go_wp2
    go_ret
    exact Ret.mk rfl (by repeat (first | with_reducible refine Below.setCell ?_ (by first | (simp; done) | (simp; omega)) _ | with_reducible assumption | with_reducible exact Below.refl _ _ | with_reducible refine Below.alloc ?_ (by first | omega | (simp; done) | (simp; omega)) _ | with_reducible refine Below.drew ?_))
  have h0' : ¬ z < 0 := by omega
  have h1' : ¬ z > 4096 := by omega
  by_cases h2 : m ≤ 400
  case neg =>
    rw [okB_many h2]
    have h2' : (m : Int) > 400 := by omega
    go_enter Tryz.func33, Tryz.ntmps33
    go_wp2
    go_ret
    exact Ret.mk rfl (by repeat (first | with_reducible refine Below.setCell ?_ (by first | (simp; done) | (simp; omega)) _ | with_reducible assumption | with_reducible exact Below.refl _ _ | with_reducible refine Below.alloc ?_ (by first | omega | (simp; done) | (simp; omega)) _ | with_reducible refine Below.drew ?_))
  have h2' : ¬ (m : Int) > 400 := by omega
  rw [okB_yes h0 h1 h2, Bool.true_and]
  go_enter Tryz.func33, Tryz.ntmps33
  go_wp2
  go_loopg [7, 23] n (fun g v i wr => ∃ (k : Nat) (last : Int), k ≤ n ∧ g = n - k ∧ v = .int .i64 last ∧ i = .int .i64 k ∧ Hid (rightF z (-1) ms = rightF z last (ms.drop k)) ∧ Below w.heap.size w wr)
  case atStart => exact ⟨0, -1, Nat.zero_le _, rfl, rfl, rfl, Lib.hid rfl, Below.refl _ _⟩
  case round =>
    obtain ⟨k, last, hk, rfl, rfl, rfl, HF, hB⟩ := hrel
    by_cases hlt : k < n
    · obtain ⟨b, off, rfl, hb, hc⟩ := HR.out.at_ icell_len (by omega)
      obtain ⟨y, hy⟩ : ∃ y, ms[k]? = some y := ⟨_, List.getElem?_eq_getElem (by rw [HL.out]; exact hlt)⟩
      have c0 := ifact hb hB hc hy
      have HS := Lib.hid (rightF_step (z := z) (last := last) hy)
      clear hc hy
      by_cases ha : y ≤ last
      · go_wp2
        go_ret
        exact Ret.mk (bool_eq (by rw [HF.out, HS.out, decide_eq_false (by omega)]; rfl)) (by repeat (first | with_reducible refine Below.setCell ?_ (by first | (simp; done) | (simp; omega)) _ | with_reducible assumption | with_reducible exact Below.refl _ _ | with_reducible refine Below.alloc ?_ (by first | omega | (simp; done) | (simp; omega)) _ | with_reducible refine Below.drew ?_))
      · by_cases hz : y ≥ z
        · go_wp2
          go_ret
          exact Ret.mk (bool_eq (by rw [HF.out, HS.out, decide_eq_false (p := y < z) (by omega), Bool.and_false]; rfl)) (by repeat (first | with_reducible refine Below.setCell ?_ (by first | (simp; done) | (simp; omega)) _ | with_reducible assumption | with_reducible exact Below.refl _ _ | with_reducible refine Below.alloc ?_ (by first | omega | (simp; done) | (simp; omega)) _ | with_reducible refine Below.drew ?_))
        · have HN : Hid (rightF z (-1) ms = rightF z y (ms.drop (k + 1))) := Lib.hid (by rw [HF.out, HS.out, decide_eq_true (show last < y by omega), decide_eq_true (show y < z by omega)]; rfl)
          clear HF HS
          go_wp2
          go_roundg (n - (k + 1))
          case measure => omega
          case rel => exact ⟨k + 1, y, by omega, rfl, rfl, by go_num, HN, hB⟩
    · have HE : rightF z (-1) ms = true := by rw [HF.out, show k = ms.length by rw [HL.out]; omega, rightF_end]
      clear HF
      have HE2 := Lib.hid HE
      clear HE
      go_wp2
      go_ret
      exact Ret.mk (bool_eq HE2.out.symm) (by repeat (first | with_reducible refine Below.setCell ?_ (by first | (simp; done) | (simp; omega)) _ | with_reducible assumption | with_reducible exact Below.refl _ _ | with_reducible refine Below.alloc ?_ (by first | omega | (simp; done) | (simp; omega)) _ | with_reducible refine Below.drew ?_))

theorem uright_walk_eq {z : Int} {ok : Bool} {last y : Int} {l : List Int} {k : Nat} (hy : l[k]? = some y) : (ok && rightF z last (l.drop k)) = (((ok && decide (last < y)) && decide (y < z)) && rightF z y (l.drop (k + 1))) := by
  rw [rightF_step hy, Bool.and_assoc, Bool.and_assoc, Bool.and_assoc]

/-- the claims from k on -/
def cntFrom (l : List Cm) (k : Nat) (b : Int) : Nat := cnt ((l.drop k).map Cm.p) b
theorem cntFrom_step {l : List Cm} {k : Nat} {x : Cm} (h : l[k]? = some x) (b : Int) : cntFrom l k b = x.bs.count b + cntFrom l (k + 1) b := by
  obtain ⟨hl, e⟩ := List.getElem?_eq_some_iff.1 h
  unfold cntFrom cnt flat
  rw [List.drop_eq_getElem_cons hl, e, List.map_cons, List.flatMap_cons, List.count_append]
  rfl
theorem cntFrom_end (l : List Cm) (b : Int) : cntFrom l l.length b = 0 := by unfold cntFrom cnt flat; rw [List.drop_length]; rfl
theorem count_step {l : List Int} {k : Nat} {x : Int} (h : l[k]? = some x) (b : Int) : (l.drop k).count b = (if x = b then 1 else 0) + (l.drop (k + 1)).count b := by
  obtain ⟨hl, e⟩ := List.getElem?_eq_some_iff.1 h
  rw [List.drop_eq_getElem_cons hl, e, List.count_cons]
  by_cases hx : x = b
  · subst hx; simp; omega
  · simp [hx]

end Fs
end Go.Proofs.YtjopiepfjbnkbaaGreatDoor
/-! Walks of the reference's SameClaims, URepair. Conditions: none beyond each theorem's own premises. -/
namespace Go.Proofs.YtjopiepfjbnkbaaGreatDoor
open Go.RowKit
set_option linter.unusedVariables false
namespace Fs

theorem claim_info : (Tryz.prog.info? 63).map (fun i => (i.zero, i.size, i.bytes)) = some (some (.agg #[.int .i64 0, .slice none 0 0]), 2, 32) := by kernel_rfl
theorem int_info : (Tryz.prog.info? 3).map (fun i => (i.zero, i.size, i.bytes)) = some (some (.int .i64 0), 1, 8) := by kernel_rfl
def Cm.row (x : Cm) : It := .row 3 1 (.slice x.A x.n x.c) x.n (x.bs.flatMap icell)
theorem Row.read {w : World} {E n c : Nat} {A : Option Addr} {bs : List Int} (h : Row w E 1 (.slice A n c) n (bs.flatMap icell)) : Rd w w.heap.size 1 A n (bs.flatMap icell) ∧ bs.length = n ∧ n ≤ maxLen := by
  have h1 := h.1
  rw [flat_len icell_len] at h1
  refine ⟨Row.rd h, by omega, ?_⟩
  rcases h.2 with ⟨h0, _⟩ | ⟨_, cap, _, _, _, h2, h3, _⟩
  · omega
  · omega
theorem CL_of {w0 w : World} {A : Option Addr} {N c : Nat} {outs : List Cm} {J : List It} (H : Sep w0 w (.row 63 2 (.slice A N c) N (outs.flatMap Cm.cells) :: (outs.map Cm.row ++ J))) : CL w A N outs := by
  have h0 := H.rowHas 0 rfl
  have h1 := h0.1
  rw [flat_len Cm.len] at h1
  refine ⟨Row.rd h0, by omega, fun x hx => ?_⟩
  obtain ⟨k, hk⟩ := List.getElem?_of_mem hx
  have hlt := (List.getElem?_eq_some_iff.1 hk).1
  have h2 := H.rowHas (k + 1) (E := 3) (size := 1) (n := x.n) (v := .slice x.A x.n x.c) (xs := x.bs.flatMap icell) (by
    rw [List.getElem?_cons_succ, List.getElem?_append_left (by rw [List.length_map]; exact hlt), List.getElem?_map, hk]
    rfl)
  exact Row.read h2
theorem flat_p_snoc (outs : List Cm) (y : Cm) : flat ((outs ++ [y]).map Cm.p) = flat (outs.map Cm.p) ++ y.bs := by
  rw [List.map_append]
  exact flat_snoc _ _
theorem CL_of1 {w0 w : World} {A : Option Addr} {N c : Nat} {outs : List Cm} {J : List It} {f : Int} {A2 : Option Addr} {m c2 : Nat} {cur : List Int} (H : Sep w0 w (.row 63 2 (.slice A N c) N (outs.flatMap Cm.cells ++ [.int .i64 f, .slice A2 m c2]) :: ((outs.map Cm.row ++ [.row 3 1 (.slice A2 m c2) m (cur.flatMap icell)]) ++ J))) :
    CL w A N (outs ++ [⟨f, A2, m, c2, cur⟩]) := by
  refine CL_of (w0 := w0) (c := c) (J := J) ?_
  rw [List.flatMap_append, List.map_append]
  exact H
theorem sub_mid {R X Y : It} (F : List It) : (R :: (F ++ [Y])).Sublist ((R :: (F ++ [X])) ++ [Y]) := by
  rw [List.cons_append, List.append_assoc]
  exact List.Sublist.cons_cons _ (List.Sublist.append_left (List.sublist_cons_self _ _) _)
theorem at_mid {R X : It} (F : List It) {k : Nat} (h : F.length = k) : (R :: (F ++ [X]))[k + 1]? = some X := by
  subst h
  simp
theorem set_mid {R X Y : It} (F : List It) {k : Nat} (h : F.length = k) : (R :: (F ++ [X])).set (k + 1) Y = R :: (F ++ [Y]) := by
  subst h
  simp
theorem set_cell {pre : List Value} {a b u : Value} {k : Nat} (h : pre.length = k * 2) : (pre ++ [a, b]).set (k * 2 + 1) u = pre ++ [a, u] := by
  rw [← h]
  simp
theorem get_cell {pre : List Value} {a b : Value} {k : Nat} (h : pre.length = k * 2) : (pre ++ [a, b])[k * 2 + 1]? = some b := by
  rw [← h]
  simp

/-- what Repair's and URepair's results hold -/
def RepRet (w : World) (R : List (Int × List Int)) (M : List Int) (A : Option Addr) (n : Nat) (A' : Option Addr) (n' : Nat) (w' : World) : Prop :=
  Below w.heap.size w w' ∧ (∃ outs : List Cm, CL w' A n outs ∧ outs.map Cm.p = R) ∧ Rd w' w'.heap.size 1 A' n' (M.flatMap icell) ∧ M.length = n'

end Fs
end Go.Proofs.YtjopiepfjbnkbaaGreatDoor
