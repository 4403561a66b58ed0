/-
  Walk of the reference's NGaps. Conditions: none.
-/
import Derived.Test.YtakmfjnfkjdbfaaSpW
namespace Go.Proofs.Ytakmfjnfkjdbfaa
open Go.RowKit
set_option linter.unusedVariables false
namespace Sp

def bcell (b : Bool) : List Value := [.bool b]
theorem bcell_len : ∀ x, (bcell x).length = 1 := fun _ => rfl
theorem gap_info : (Try.prog.info? 50).map (fun i => (i.zero, i.size, i.bytes)) = some (some (.agg #[.int .i64 0, .int .i64 0]), 2, 16) := by kernel_rfl
theorem bool_at {w wr : World} {b off Bd k : Nat} {l : List Bool} {x : Bool} (hb : b < Bd) (hB : Below Bd w wr) (hc : ∀ (i j : Nat) (x : Bool) (u : Value), l[i]? = some x → (bcell x)[j]? = some u → w.cell? ⟨b, off + (i * 1 + j), none⟩ = some u)
    (hx : l[k]? = some x) : wr.cell? ⟨b, off + k, none⟩ = some (.bool x) := (hB.cell hb).trans (by have := hc k 0 x _ hx rfl; simpa using this)

/-- the gaps of the first k blocks -/
def part (row : List Bool) (k : Nat) : List N := ng (row.take k) 0 false []
theorem ng_snoc (f : Bool) : ∀ (row : List Bool) (k : Nat) (prev : Bool) (out : List N), ng (row ++ [f]) k prev out = ngStep (ng row k prev out) (k + row.length) (row.getLast?.getD prev) f
  | [], k, prev, out => rfl
  | x :: t, k, prev, out => by
    show ng (t ++ [f]) (k + 1) x (ngStep out k prev x) = _
    rw [ng_snoc f t (k + 1) x]
    show _ = ngStep (ng t (k + 1) x (ngStep out k prev x)) _ _ f
    congr 1
    · simp; omega
    · cases t with
      | nil => rfl
      | cons y t => simp [List.getLast?_cons]
theorem part_succ {row : List Bool} {k : Nat} {f : Bool} (h : row[k]? = some f) : part row (k + 1) = ngStep (part row k) k ((row.take k).getLast?.getD false) f := by
  have hk := (List.getElem?_eq_some_iff.1 h).1
  have e : row.take (k + 1) = row.take k ++ [f] := by rw [List.take_add_one, h]; rfl
  unfold part
  rw [e, ng_snoc, List.length_take, Nat.zero_add, Nat.min_eq_left (by omega)]
theorem part_prev {row : List Bool} {k : Nat} {p : Bool} (h : row[k]? = some p) : (row.take (k + 1)).getLast?.getD false = p := by
  rw [List.take_add_one, h]
  simp
/-- where the block ahead was free a gap ends there: the list is not empty -/
theorem part_last {row : List Bool} : ∀ {k : Nat}, row[k]? = some true → ∃ init g, part row (k + 1) = init ++ [g]
  | 0, h => by
    rw [part_succ h]
    exact ⟨[], ⟨0, 1⟩, rfl⟩
  | k + 1, h => by
    rw [part_succ h]
    have hk := (List.getElem?_eq_some_iff.1 h).1
    obtain ⟨p, hp⟩ : ∃ p, row[k]? = some p := ⟨_, List.getElem?_eq_getElem (by omega)⟩
    rw [part_prev hp]
    cases p with
    | true =>
      obtain ⟨init, g, he⟩ := part_last hp
      exact ⟨init, ⟨g.a, g.m + 1⟩, by rw [ngStep, if_pos rfl, if_pos rfl, he, bump_snoc]⟩
    | false => exact ⟨part row (k + 1), ⟨k + 1, 1⟩, by rw [ngStep, if_pos rfl, if_neg (by decide)]⟩
theorem part_len {row : List Bool} : ∀ k : Nat, k ≤ row.length → (part row k).length ≤ k
  | 0, _ => by simp [part, ng]
  | k + 1, h => by
    obtain ⟨f, hf⟩ : ∃ f, row[k]? = some f := ⟨_, List.getElem?_eq_getElem (by omega)⟩
    have ih := part_len (row := row) k (by omega)
    rw [part_succ hf, ngStep]
    split
    · split
      · rename_i hp
        cases k with
        | zero => simp at hp
        | succ j =>
          obtain ⟨p, hpj⟩ : ∃ p, row[j]? = some p := ⟨_, List.getElem?_eq_getElem (by omega)⟩
          rw [part_prev hpj] at hp
          subst hp
          obtain ⟨init, g, he⟩ := part_last hpj
          rw [he, bump_snoc]
          rw [he] at ih
          simp at ih ⊢
          omega
      · simp; omega
    · omega

theorem part_m {row : List Bool} : ∀ k : Nat, k ≤ row.length → ∀ x ∈ part row k, x.m ≤ k
  | 0, _, x, hx => by simp [part, ng] at hx
  | k + 1, h, x, hx => by
    obtain ⟨f, hf⟩ : ∃ f, row[k]? = some f := ⟨_, List.getElem?_eq_getElem (by omega)⟩
    have ih := part_m (row := row) k (by omega)
    rw [part_succ hf, ngStep] at hx
    split at hx
    · split at hx
      · rename_i hp
        cases k with
        | zero => simp at hp
        | succ j =>
          obtain ⟨p, hpj⟩ : ∃ p, row[j]? = some p := ⟨_, List.getElem?_eq_getElem (by omega)⟩
          rw [part_prev hpj] at hp
          subst hp
          obtain ⟨init, g, he⟩ := part_last hpj
          rw [he, bump_snoc] at hx
          rw [he] at ih
          rcases List.mem_append.1 hx with hx | hx
          · have := ih x (by simp [hx]); omega
          · simp at hx
            subst hx
            have := ih g (by simp)
            simp
            omega
      · rcases List.mem_append.1 hx with hx | hx
        · have := ih x hx; omega
        · simp at hx
          subst hx
          simp
    · have := ih x hx; omega
theorem lastCells (init : List N) (g : N) (j : Nat) (hj : j < 2) : ((init ++ [g]).flatMap fun n => (G.of n).cells)[init.length * 2 + j]? = (G.of g).cells[j]? := by
  have := flat_get (cells := fun n : N => (G.of n).cells) (C := 2) (fun _ => rfl) (init ++ [g]) init.length j g (by rw [List.getElem?_append_right (Nat.le_refl _), Nat.sub_self]; rfl) hj
  exact this
def ncells (n : N) : List Value := (G.of n).cells
theorem ncells_len : ∀ n, (ncells n).length = 2 := fun _ => rfl
set_option maxRecDepth 100000 in
set_option maxHeartbeats 3200000 in
theorem ngaps_any (A : Option Addr) (n c : Nat) (row : List Bool) (w : World) (hr : Rd w w.heap.size 1 A n (row.flatMap bcell)) (hl : row.length = n) (hn : n ≤ 4096) :
    Calls Try.prog 49 #[.slice A n c] w (SliceRet w 50 2 (part row n).length ((part row n).flatMap ncells)) := by
  obtain ⟨ti, hti, t0, t1, t2⟩ := info_parts gap_info
  have HR := Lib.hid hr
  have HL := Lib.hid hl
  have S0 := Lib.hid ((Sep.nil_ w).nilRow 50 2 none)
  clear hr hl
  go_enter Try.func49, Try.ntmps49
  go_wp2
  go_loopg [3, 8] n (fun g v3 i wr => ∃ (k m : Nat) (A3 : Option Addr) (c3 : Nat), k ≤ n ∧ g = n - k ∧ i = .int .i64 k ∧ v3 = .slice A3 m c3 ∧ m ≤ c3 ∧ m ≤ k ∧ Hid (m = (part row k).length) ∧ Sep w wr [.row 50 2 (.slice A3 m c3) m ((part row k).flatMap ncells)])
  case atStart => exact ⟨0, 0, none, 0, Nat.zero_le _, rfl, rfl, rfl, Nat.le_refl _, Nat.le_refl _, Lib.hid rfl, S0.out⟩
  case round =>
    clear S0
    obtain ⟨k, m, A3, c3, hk, rfl, rfl, rfl, hmc, hmk, HM, hs⟩ := hrel
    have HS := Lib.hid hs
    clear hs
    by_cases hlt : k < n
    · obtain ⟨b, off, rfl, hb, hc⟩ := HR.out.at_ bcell_len (by omega)
      obtain ⟨f, hf⟩ : ∃ f, row[k]? = some f := ⟨_, List.getElem?_eq_getElem (by rw [HL.out]; exact hlt)⟩
      have d0 := bool_at hb HS.out.below hc hf
      have i0 : (0 : Int) ≤ (k : Int) := by omega
      have i1 : (k : Int) < (n : Int) := by omega
      have HF := Lib.hid hf
      have HC := Lib.hid hc
      clear hf hc
      cases f with
      | false =>
        have HP : Hid (part row (k + 1) = part row k) := Lib.hid (by rw [part_succ HF.out, ngStep, if_neg (by decide)])
        go_wp2
        go_roundg (n - (k + 1))
        case measure => omega
        case rel => exact ⟨k + 1, m, A3, c3, by omega, rfl, by go_num, rfl, hmc, by omega, Lib.hid (by rw [HP.out]; exact HM.out), by rw [HP.out]; exact HS.out⟩
      | true =>
        cases k with
        | zero =>
          have HP : Hid (part row (0 + 1) = part row 0 ++ [⟨0, 1⟩]) := Lib.hid (by rw [part_succ HF.out]; rfl)
          have d0' : wr.cell? ⟨b, off, none⟩ = some (.bool true) := d0
          clear d0
          have hnew := Lib.hid (Rd.of_own (own_new wr 50 #[.int .i64 (0), .int .i64 0] 2 1 rfl (by simp [maxLen]) (Nat.le_refl _)))
          go_upto_region 8 with (at_builtin; refine wpList_append_sep (HS.out.alloc _) 0 rfl (.tmp 26) (.tmp 29) 37 rfl 50 ti (.agg #[.int .i64 0, .int .i64 0]) 2 16 Try.underlying37 hti t0 t1 t2 rfl (by omega) _ m _ rfl rfl _ _ 1 1 _ rfl hnew.out (by simp [Value.oneCell']) (by simp only [maxLen]; omega) (by omega) ?_; intro A6 c6 w6 hc6 hs6 H6'; have H6 := Lib.hid H6'; clear H6')
          have HB : Hid (Sep w w6 [.row 50 2 (.slice A6 (m + 1) c6) (m + 1) ((part row (0) ++ [(⟨0, 0⟩ : N)]).flatMap ncells)]) := Lib.hid (by rw [List.flatMap_append]; exact H6.out)
          have hq : (part row (0)).length = m := HM.out.symm
          clear d0' hnew HS
          obtain ⟨g3, rfl, _, hat⟩ := HB.out.rowAt 0 rfl (by omega)
          have cl : ((part row 0 ++ [(⟨0, 0⟩ : N)]).flatMap ncells)[m * 2 + 1]? = some (.int .i64 (0)) := by rw [← hq]; exact flat_get ncells_len (part row 0 ++ [(⟨0, 0⟩ : N)]) (part row 0).length 1 (⟨0, 0⟩ : N) (by rw [List.getElem?_append_right (Nat.le_refl _), Nat.sub_self]; rfl) (by omega)
          have e0 := (hat _).1 _ cl
          have u0 := (hat (m * 2 + 1)).2.1
          have KS := Lib.hid (HB.out.field ncells_len 0 rfl (by omega) (k := m) (j := 1) (x := (⟨0, 0⟩ : N)) (by rw [List.getElem?_append_right (by omega), hq, Nat.sub_self]; rfl) (by omega) (⟨0, 1⟩ : N) (.int .i64 (1)) rfl)
          have hset : (part row 0 ++ [(⟨0, 0⟩ : N)]).set m (⟨0, 1⟩ : N) = part row 0 ++ [(⟨0, 1⟩ : N)] := by rw [List.set_append_right _ _ (by omega), hq, Nat.sub_self]; rfl
          have HSET := Lib.hid hset
          have q0 : (0 : Int) ≤ (m : Int) := by omega
          have q1 : (m : Int) < ((m + 1 : Nat) : Int) := by omega
          have q2 : ((m + 1 : Nat) : Int) - 1 = (m : Int) := by omega
          clear hat cl hset
          go_wp2
          go_roundg (n - (0 + 1))
          case measure => omega
          case rel => exact ⟨0 + 1, m + 1, _, c6, by omega, rfl, by first | rfl | go_num, rfl, hc6, by omega, Lib.hid (by rw [HP.out, List.length_append, hq]; rfl), by rw [HP.out, ← HSET.out]; exact KS.out⟩
        | succ j =>
          obtain ⟨p, hpj⟩ : ∃ p, row[j]? = some p := ⟨_, List.getElem?_eq_getElem (by rw [HL.out]; omega)⟩
          have d1 := bool_at hb HS.out.below HC.out hpj
          have ht : (((j + 1 : Nat) : Int) == 0) = false := by simp; omega
          have k1 : ((j + 1 : Nat) : Int) - 1 = (j : Int) := by omega
          have k2 : (0 : Int) ≤ (j : Int) := by omega
          have k3 : (j : Int) < (n : Int) := by omega
          cases p with
          | false =>
            have HP : Hid (part row (j + 1 + 1) = part row (j + 1) ++ [⟨j + 1, 1⟩]) := Lib.hid (by rw [part_succ HF.out, part_prev hpj, ngStep, if_pos rfl, if_neg (by decide)])
            clear hpj
            have hnew := Lib.hid (Rd.of_own (own_new wr 50 #[.int .i64 (((j + 1 : Nat) : Int)), .int .i64 0] 2 1 rfl (by simp [maxLen]) (Nat.le_refl _)))
            go_upto_region 8 with (at_builtin; refine wpList_append_sep (HS.out.alloc _) 0 rfl (.tmp 26) (.tmp 29) 37 rfl 50 ti (.agg #[.int .i64 0, .int .i64 0]) 2 16 Try.underlying37 hti t0 t1 t2 rfl (by omega) _ m _ rfl rfl _ _ 1 1 _ rfl hnew.out (by simp [Value.oneCell']) (by simp only [maxLen]; omega) (by omega) ?_; intro A6 c6 w6 hc6 hs6 H6'; have H6 := Lib.hid H6'; clear H6')
            have HB : Hid (Sep w w6 [.row 50 2 (.slice A6 (m + 1) c6) (m + 1) ((part row (j + 1) ++ [(⟨j + 1, 0⟩ : N)]).flatMap ncells)]) := Lib.hid (by rw [List.flatMap_append]; exact H6.out)
            have hq : (part row (j + 1)).length = m := HM.out.symm
            clear d0 d1 hnew HS
            obtain ⟨g3, rfl, _, hat⟩ := HB.out.rowAt 0 rfl (by omega)
            have cl : ((part row (j + 1) ++ [(⟨j + 1, 0⟩ : N)]).flatMap ncells)[m * 2 + 1]? = some (.int .i64 (0)) := by rw [← hq]; exact flat_get ncells_len (part row (j + 1) ++ [(⟨j + 1, 0⟩ : N)]) (part row (j + 1)).length 1 (⟨j + 1, 0⟩ : N) (by rw [List.getElem?_append_right (Nat.le_refl _), Nat.sub_self]; rfl) (by omega)
            have e0 := (hat _).1 _ cl
            have u0 := (hat (m * 2 + 1)).2.1
            have KS := Lib.hid (HB.out.field ncells_len 0 rfl (by omega) (k := m) (j := 1) (x := (⟨j + 1, 0⟩ : N)) (by rw [List.getElem?_append_right (by omega), hq, Nat.sub_self]; rfl) (by omega) (⟨j + 1, 1⟩ : N) (.int .i64 (1)) rfl)
            have hset : (part row (j + 1) ++ [(⟨j + 1, 0⟩ : N)]).set m (⟨j + 1, 1⟩ : N) = part row (j + 1) ++ [(⟨j + 1, 1⟩ : N)] := by rw [List.set_append_right _ _ (by omega), hq, Nat.sub_self]; rfl
            have HSET := Lib.hid hset
            have q0 : (0 : Int) ≤ (m : Int) := by omega
            have q1 : (m : Int) < ((m + 1 : Nat) : Int) := by omega
            have q2 : ((m + 1 : Nat) : Int) - 1 = (m : Int) := by omega
            clear hat cl hset
            go_wp2
            go_roundg (n - (j + 1 + 1))
            case measure => omega
            case rel => exact ⟨j + 1 + 1, m + 1, _, c6, by omega, rfl, by go_num, rfl, hc6, by omega, Lib.hid (by rw [HP.out, List.length_append, hq]; rfl), by rw [HP.out, ← HSET.out]; exact KS.out⟩
          | true =>
            obtain ⟨init, gg, hpl⟩ := part_last hpj
            have hgm : gg.m ≤ n := by
              have := part_m (row := row) (j + 1) (by rw [HL.out]; omega) gg (by rw [hpl]; simp)
              omega
            obtain ⟨q, rfl⟩ : ∃ q, m = q + 1 := ⟨init.length, by rw [HM.out, hpl]; simp⟩
            have hq : init.length = q := by have := HM.out; rw [hpl] at this; simp at this; omega
            have HP : Hid (part row (j + 1 + 1) = init ++ [⟨gg.a, gg.m + 1⟩]) := Lib.hid (by rw [part_succ HF.out, part_prev hpj, ngStep, if_pos rfl, if_pos rfl, hpl, bump_snoc])
            have HB : Hid (Sep w wr [.row 50 2 (.slice A3 (q + 1) c3) (q + 1) ((init ++ [gg]).flatMap ncells)]) := Lib.hid (by rw [← hpl]; exact HS.out)
            clear hpj hpl HS
            obtain ⟨g3, rfl, _, hat⟩ := HB.out.rowAt 0 rfl (by omega)
            have cl : ((init ++ [gg]).flatMap ncells)[q * 2 + 1]? = some (.int .i64 ((gg.m : Int))) := by rw [← hq]; exact flat_get ncells_len (init ++ [gg]) (init).length 1 gg (by rw [List.getElem?_append_right (Nat.le_refl _), Nat.sub_self]; rfl) (by omega)
            have e0 := (hat _).1 _ cl
            have u0 := (hat (q * 2 + 1)).2.1
            have KS := Lib.hid (HB.out.field ncells_len 0 rfl (by omega) (k := q) (j := 1) (x := gg) (by rw [List.getElem?_append_right (by omega), hq, Nat.sub_self]; rfl) (by omega) (⟨gg.a, gg.m + 1⟩ : N) (.int .i64 ((gg.m : Int) + 1)) rfl)
            have hset : (init ++ [gg]).set q (⟨gg.a, gg.m + 1⟩ : N) = init ++ [(⟨gg.a, gg.m + 1⟩ : N)] := by rw [List.set_append_right _ _ (by omega), hq, Nat.sub_self]; rfl
            have HSET := Lib.hid hset
            have q0 : (0 : Int) ≤ (q : Int) := by omega
            have q1 : (q : Int) < ((q + 1 : Nat) : Int) := by omega
            have q2 : ((q + 1 : Nat) : Int) - 1 = (q : Int) := by omega
            clear hat cl hset
            have HQ := Lib.hid hq
            have k4 : ((gg.m : Int) + 1) = ((gg.m + 1 : Nat) : Int) := by omega
            clear hq k4
            go_wp2
            go_roundg (n - (j + 1 + 1))
            case measure => omega
            case rel => exact ⟨j + 1 + 1, q + 1, _, c3, by omega, rfl, by go_num, rfl, hmc, by omega, Lib.hid (by rw [HP.out, List.length_append, HQ.out]; rfl), by rw [HP.out, ← HSET.out]; exact KS.out⟩
    · obtain rfl : k = n := by omega
      go_wp2
      go_ret
      rw [← HM.out]
      exact ⟨A3, c3, hmc, rfl, HS.out⟩
end Sp
end Go.Proofs.Ytakmfjnfkjdbfaa
