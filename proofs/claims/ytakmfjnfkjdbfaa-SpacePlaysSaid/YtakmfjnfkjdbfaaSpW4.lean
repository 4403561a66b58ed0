/-
  Walk of space.choose. Conditions: none.
-/
import Derived.Test.YtakmfjnfkjdbfaaSpW3
namespace Go.Proofs.Ytakmfjnfkjdbfaa
open Go.RowKit
set_option linter.unusedVariables false
namespace Sp

/-- which gap is taken: its place and itself -/
def chStep (m : Nat) (fit : Bool) (b : Option (Nat × N)) (i : Nat) (g : N) : Option (Nat × N) :=
  if m ≤ g.m then match b with
    | none => some (i, g)
    | some (j, h) => if fit && decide (g.m < h.m) then some (i, g) else some (j, h)
  else b
def chAll (m : Nat) (fit : Bool) (l : List N) : Nat → Option (Nat × N)
  | 0 => none
  | k + 1 => match l[k]? with
    | some g => chStep m fit (chAll m fit l k) k g
    | none => chAll m fit l k
theorem chAll_at {m : Nat} {fit : Bool} {l : List N} : ∀ {k i : Nat} {g : N}, chAll m fit l k = some (i, g) → i < k ∧ l[i]? = some g ∧ m ≤ g.m
  | 0, i, g, h => by simp [chAll] at h
  | k + 1, i, g, h => by
    rw [chAll] at h
    cases hk : l[k]? with
    | none =>
      rw [hk] at h
      have := chAll_at h
      exact ⟨by omega, this.2⟩
    | some x =>
      rw [hk] at h
      simp only [chStep] at h
      by_cases hm : m ≤ x.m
      · rw [if_pos hm] at h
        cases hb : chAll m fit l k with
        | none =>
          rw [hb] at h
          simp at h
          obtain ⟨rfl, rfl⟩ := h
          exact ⟨by omega, hk, hm⟩
        | some p =>
          obtain ⟨j, y⟩ := p
          rw [hb] at h
          simp only at h
          split at h
          · simp at h
            obtain ⟨rfl, rfl⟩ := h
            exact ⟨by omega, hk, hm⟩
          · simp at h
            obtain ⟨rfl, rfl⟩ := h
            have := chAll_at hb
            exact ⟨by omega, this.2⟩
      · rw [if_neg hm] at h
        have := chAll_at h
        exact ⟨by omega, this.2⟩
/-- the place as a number, or -1 -/
def bestI : Option (Nat × N) → Int
  | none => -1
  | some p => (p.1 : Int)

set_option maxRecDepth 100000 in
set_option maxHeartbeats 3200000 in
theorem choose_any (A : Option Addr) (n c m : Nat) (kind at' : Int) (l : List N) (w : World) (hr : Rd w w.heap.size 2 A n (l.flatMap ncells)) (hl : l.length = n) (hn : n ≤ 9223372036854775807) :
    Calls Try.prog 63 #[.slice A n c, .agg #[.int .i64 kind, .int .i64 at', .int .i64 (m : Int)]] w (Ret w (.int .i64 (bestI (chAll m (kind == 2) l n)))) := by
  have HR := Lib.hid hr
  have HL := Lib.hid hl
  have S0 : Hid (Sep w (w.alloc (.cells #[.int .i64 kind, .int .i64 at', .int .i64 (m : Int)] 39)) [.cells w.heap.size 39 [.int .i64 kind, .int .i64 at', .int .i64 (m : Int)]]) := Lib.hid ((Sep.nil_ w).new 39 [.int .i64 kind, .int .i64 at', .int .i64 (m : Int)])
  clear hr hl
  go_enter Try.func63, Try.ntmps63
  go_wp2
  generalize w.heap.size = go at S0 ⊢
  go_loopg [5, 10] n (fun g v5 i wr => ∃ (k : Nat), k ≤ n ∧ g = n - k ∧ i = .int .i64 k ∧ v5 = .int .i64 (bestI (chAll m (kind == 2) l k)) ∧ Sep w wr [.cells go 39 [.int .i64 kind, .int .i64 at', .int .i64 (m : Int)]])
  case atStart => exact ⟨0, Nat.zero_le _, rfl, rfl, rfl, S0.out⟩
  case round =>
    clear S0
    obtain ⟨k, hk, rfl, rfl, rfl, hs⟩ := hrel
    have HS := Lib.hid hs
    clear hs
    by_cases hlt : k < n
    · obtain ⟨b, off, rfl, hb, hc⟩ := HR.out.at_ ncells_len (by omega)
      obtain ⟨x, hx⟩ : ∃ x, l[k]? = some x := ⟨_, List.getElem?_eq_getElem (by rw [HL.out]; exact hlt)⟩
      have d0 : wr.cell? ⟨b, off + k * 2, none⟩ = some (.int .i64 (x.a : Int)) := (HS.out.below.cell hb).trans (hc k 0 x _ hx rfl)
      have d1 : wr.cell? ⟨b, off + k * 2 + 1, none⟩ = some (.int .i64 (x.m : Int)) := (HS.out.below.cell hb).trans (hc k 1 x _ hx rfl)
      have i0 : (0 : Int) ≤ (k : Int) := by omega
      have i1 : (k : Int) < (n : Int) := by omega
      have HC := Lib.hid hc
      have HB1 : Hid (chAll m (kind == 2) l (k + 1) = chStep m (kind == 2) (chAll m (kind == 2) l k) k x) := Lib.hid (by rw [chAll, hx])
      have HS1 : Hid (Sep w (wr.alloc (.cells #[.int .i64 (x.a : Int), .int .i64 (x.m : Int)] 50)) [.cells go 39 [.int .i64 kind, .int .i64 at', .int .i64 (m : Int)], .cells wr.heap.size 50 [.int .i64 (x.a : Int), .int .i64 (x.m : Int)]]) := Lib.hid (HS.out.new 50 [.int .i64 (x.a : Int), .int .i64 (x.m : Int)])
      clear hc hx
      go_upto_region 5 with (fail)
      generalize wr.alloc (.cells #[.int .i64 (x.a : Int), .int .i64 (x.m : Int)] 50) = wo at HS1 ⊢
      generalize wr.heap.size = gx at HS1 ⊢
      clear HS d0 d1
      have q0 := fun z : LaterOf wo => z.cell (HS1.out.cell 0 rfl (k := 0) rfl)
      have q2 := fun z : LaterOf wo => z.cell (HS1.out.cell 0 rfl (k := 2) rfl)
      have p1 := fun z : LaterOf wo => z.cell (HS1.out.cell 1 rfl (k := 1) rfl)
      by_cases hm : m ≤ x.m
      · cases hbst : chAll m (kind == 2) l k with
        | none =>
          have HB2 : Hid (chAll m (kind == 2) l (k + 1) = some (k, x)) := Lib.hid (by rw [HB1.out, hbst, chStep, if_pos hm])
          clear hbst HB1
          simp only [bestI]
          go_wp2
          refine wp_region_later (by kernel_rfl) (by kernel_rfl) ?_
          repeat (go_big_quiet_step (fail))
          refine wpQuiet_nil ?_; intro x1 hw'; obtain ⟨xq, hw''⟩ := hw'; obtain ⟨xw0, h1⟩ := xq; change x1 = xw0 at hw''; subst hw''
          have HS2 := Lib.hid ((HS1.out.later h1).pick [0] (by decide) (by simp))
          clear HS1
          go_wp2
          go_roundg (n - (k + 1))
          case measure => omega
          case rel => exact ⟨k + 1, by omega, rfl, by go_num, by first | (rw [HB2.out]; done) | (rw [HB2.out]; rfl), HS2.out⟩
        | some p =>
          obtain ⟨i, h⟩ := p
          obtain ⟨c1, c2, c3⟩ := chAll_at hbst
          have e1 : ∀ z : LaterOf wo, z.w.cell? ⟨b, off + i * 2 + 1, none⟩ = some (.int .i64 (h.m : Int)) := fun z => z.cell ((HS1.out.below.cell hb).trans (HC.out i 1 h (.int .i64 (h.m : Int)) c2 rfl))
          have j0 : (0 : Int) ≤ (i : Int) := by omega
          have j1 : (i : Int) < (n : Int) := by omega
          have j2 : decide ((i : Int) < 0) = false := decide_eq_false (by omega)
          have j3 : ¬ (i : Int) < 0 := by omega
          cases hkd : (kind == 2) with
          | false =>
            have HB2 : Hid (chAll m (kind == 2) l (k + 1) = some (i, h)) := Lib.hid (by rw [HB1.out, hbst, chStep, if_pos hm, hkd]; rfl)
            clear hbst HB1 c2
            simp only [bestI]
            go_wp2
            refine wp_region_later (by kernel_rfl) (by kernel_rfl) ?_
            repeat (go_big_quiet_step (fail))
            refine wpQuiet_nil ?_; intro x1 hw'; obtain ⟨xq, hw''⟩ := hw'; obtain ⟨xw0, h1⟩ := xq; change x1 = xw0 at hw''; subst hw''
            have HS2 := Lib.hid ((HS1.out.later h1).pick [0] (by decide) (by simp))
            clear HS1
            go_wp2
            go_roundg (n - (k + 1))
            case measure => omega
            case rel => exact ⟨k + 1, by omega, rfl, by go_num, by first | (rw [HB2.out]; done) | (rw [HB2.out]; rfl), HS2.out⟩
          | true =>
            by_cases hlt2 : x.m < h.m
            · have HB2 : Hid (chAll m (kind == 2) l (k + 1) = some (k, x)) := Lib.hid (by rw [HB1.out, hbst, chStep, if_pos hm, hkd]; simp [hlt2])
              clear hbst HB1 c2
              simp only [bestI]
              go_wp2
              refine wp_region_later (by kernel_rfl) (by kernel_rfl) ?_
              repeat (go_big_quiet_step (fail))
              refine wpQuiet_nil ?_; intro x1 hw'; obtain ⟨xq, hw''⟩ := hw'; obtain ⟨xw0, h1⟩ := xq; change x1 = xw0 at hw''; subst hw''
              have HS2 := Lib.hid ((HS1.out.later h1).pick [0] (by decide) (by simp))
              clear HS1
              go_wp2
              go_roundg (n - (k + 1))
              case measure => omega
              case rel => exact ⟨k + 1, by omega, rfl, by go_num, by first | (rw [HB2.out]; done) | (rw [HB2.out]; rfl), HS2.out⟩
            · have HB2 : Hid (chAll m (kind == 2) l (k + 1) = some (i, h)) := Lib.hid (by rw [HB1.out, hbst, chStep, if_pos hm, hkd]; simp [hlt2])
              clear hbst HB1 c2
              simp only [bestI]
              go_wp2
              refine wp_region_later (by kernel_rfl) (by kernel_rfl) ?_
              repeat (go_big_quiet_step (fail))
              refine wpQuiet_nil ?_; intro x1 hw'; obtain ⟨xq, hw''⟩ := hw'; obtain ⟨xw0, h1⟩ := xq; change x1 = xw0 at hw''; subst hw''
              have HS2 := Lib.hid ((HS1.out.later h1).pick [0] (by decide) (by simp))
              clear HS1
              go_wp2
              go_roundg (n - (k + 1))
              case measure => omega
              case rel => exact ⟨k + 1, by omega, rfl, by go_num, by first | (rw [HB2.out]; done) | (rw [HB2.out]; rfl), HS2.out⟩
      · have HB2 : Hid (chAll m (kind == 2) l (k + 1) = chAll m (kind == 2) l k) := Lib.hid (by rw [HB1.out]; unfold chStep; rw [if_neg hm])
        clear HB1
        generalize hbb : chAll m (kind == 2) l k = bb at HB2 ⊢
        clear hbb
        go_wp2
        refine wp_region_later (by kernel_rfl) (by kernel_rfl) ?_
        repeat (go_big_quiet_step (fail))
        refine wpQuiet_nil ?_; intro x1 hw'; obtain ⟨xq, hw''⟩ := hw'; obtain ⟨xw0, h1⟩ := xq; change x1 = xw0 at hw''; subst hw''
        have HS2 := Lib.hid ((HS1.out.later h1).pick [0] (by decide) (by simp))
        clear HS1
        go_wp2
        go_roundg (n - (k + 1))
        case measure => omega
        case rel => exact ⟨k + 1, by omega, rfl, by go_num, by first | (rw [HB2.out]; done) | (rw [HB2.out]; rfl), HS2.out⟩
    · obtain rfl : k = n := by omega
      go_wp2
      go_ret
      exact Ret.mk rfl HS.out.below
end Sp
end Go.Proofs.Ytakmfjnfkjdbfaa
