/-
  Folders: plain law of valid entries, walks of both Right functions, of the search and of Find. Conditions: none beyond each theorem's own premises.
-/
import Derived.Test.YtelgalhkggnkbabDrG
namespace Go.Proofs.Ytelgalhkggnkbab
open Go.RowKit Go.Shelf
set_option linter.unusedVariables false
namespace Dr

/-- an entry -/
structure En where
  nm : ByteArray
  id : Int
def En.cells (x : En) : List Value := [.string x.nm, .int .i64 x.id]
theorem En.len : ∀ x : En, x.cells.length = 2 := fun _ => rfl
theorem En.facts {l : List En} {k : Nat} {x : En} {b off B : Nat} {w w' : World} (hb : b < B) (hB : Below B w w') (hc : ∀ (j d : Nat) (x : En) (v : Value), l[j]? = some x → x.cells[d]? = some v → w.cell? ⟨b, off + (j * 2 + d), none⟩ = some v) (hx : l[k]? = some x) :
    w'.cell? ⟨b, off + k * 2, none⟩ = some (.string x.nm) ∧ w'.cell? ⟨b, off + k * 2 + 1, none⟩ = some (.int .i64 x.id) :=
  ⟨(hB.cell hb).trans (hc k 0 x _ hx rfl), (hB.cell hb).trans (hc k 1 x _ hx rfl)⟩
/-- one name lies before another -/
def ltN (a b : ByteArray) : Bool := Op.bytesLess a.toList b.toList
theorem ltN_irr (a : ByteArray) : ltN a a = false := bl_irr _
theorem ltN_trans {a b c : ByteArray} (h : ltN a b = true) (h' : ltN b c = true) : ltN a c = true := bl_trans _ _ _ h h'
theorem ltN_tot {a b : ByteArray} (h : a ≠ b) : ltN a b = true ∨ ltN b a = true := bl_tot _ _ (fun e => h (toList_inj e))
theorem ltN_ne {a b : ByteArray} (h : ltN a b = true) : a ≠ b := fun e => by rw [e, ltN_irr] at h; cases h
theorem ltN_asym {a b : ByteArray} (h : ltN a b = true) : ltN b a = false := by
  cases h2 : ltN b a with
  | false => rfl
  | true => have := ltN_trans h h2; rw [ltN_irr] at this; cases this
theorem leq_iff (a b : ByteArray) : (Op.bytesLess a.toList b.toList || a.toList == b.toList) = false ↔ ltN b a = true := by
  rw [Bool.or_eq_false_iff, beq_eq_false_iff_ne]
  constructor
  · rintro ⟨h1, h2⟩
    rcases ltN_tot (fun e => h2 (by rw [e]) : a ≠ b) with h | h
    · unfold ltN at h; rw [h1] at h; cases h
    · exact h
  · intro h
    exact ⟨ltN_asym h, fun e => ltN_ne h (toList_inj e.symm)⟩
/-- valid entries -/
def RightL (l : List En) : Prop := (∀ e ∈ l, GoodB e.nm) ∧ l.Pairwise (fun x y => ltN x.nm y.nm = true)
instance (l : List En) : Decidable (RightL l) := by unfold RightL; infer_instance
theorem RightL.take {l : List En} (h : RightL l) (k : Nat) : RightL (l.take k) := ⟨fun e he => h.1 e (List.mem_of_mem_take he), h.2.sublist (List.take_sublist k l)⟩
theorem right_next {l : List En} {k : Nat} {e : En} (h : RightL (l.take k)) (he : l[k]? = some e) : RightL (l.take (k + 1)) ↔ (GoodB e.nm ∧ ∀ p, 0 < k → l[k - 1]? = some p → ltN p.nm e.nm = true) := by
  rw [List.take_add_one, he]
  constructor
  · rintro ⟨h1, h2⟩
    refine ⟨h1 e (by simp), fun p hk hp => ?_⟩
    refine (List.pairwise_append.1 h2).2.2 p ?_ e (by simp)
    rw [List.mem_iff_getElem?]
    exact ⟨k - 1, by rw [List.getElem?_take, if_pos (by omega)]; exact hp⟩
  · rintro ⟨h1, h2⟩
    refine ⟨fun x hx => ?_, List.pairwise_append.2 ⟨h.2, by simp, fun x hx y hy => ?_⟩⟩
    · rcases List.mem_append.1 hx with hx | hx
      · exact h.1 x hx
      · simp only [Option.toList, List.mem_singleton] at hx
        rw [hx]; exact h1
    · simp only [Option.toList, List.mem_singleton] at hy
      subst hy
      obtain ⟨j, hj⟩ := List.mem_iff_getElem?.1 hx
      rw [List.getElem?_take] at hj
      split at hj
      · next hjk =>
        have hlt : k - 1 < l.length := by have := (List.getElem?_eq_some_iff.1 he).1; omega
        obtain ⟨p, hp⟩ : ∃ p, l[k - 1]? = some p := ⟨_, List.getElem?_eq_getElem hlt⟩
        have hpy := h2 p (by omega) hp
        by_cases hj2 : j = k - 1
        · subst hj2; rw [hj] at hp; cases hp; exact hpy
        · refine ltN_trans ?_ hpy
          have hh := List.pairwise_iff_getElem.1 h.2 j (k - 1) (by rw [List.length_take]; omega) (by rw [List.length_take]; omega) (by omega)
          rw [List.getElem_take, List.getElem_take] at hh
          obtain ⟨a1, rfl⟩ := List.getElem?_eq_some_iff.1 hj
          obtain ⟨a2, rfl⟩ := List.getElem?_eq_some_iff.1 hp
          exact hh
      · cases hj

set_option maxRecDepth 100000 in
set_option maxHeartbeats 3200000 in
theorem dright_any (A : Option Addr) (n c : Nat) (l : List En) (b : Bool) (w : World) (hr : Rd w w.heap.size 2 A n (l.flatMap En.cells)) (hl : l.length = n) (hn : n ≤ 9223372036854775807) (hb : b = true ↔ RightL l) :
    Calls Try.prog 27 #[.slice A n c] w (Ret w (.bool b)) := by
  have HR := Lib.hid hr
  have HL := Lib.hid hl
  have HBI := Lib.hid hb
  clear hr hl hb
  go_enter Try.func27, Try.ntmps27
  go_wp2
  go_loopg [7] n (fun q i wr => ∃ (k : Nat), k ≤ n ∧ q = n - k ∧ i = .int .i64 k ∧ Hid (RightL (l.take k)) ∧ Below w.heap.size w wr)
  case atStart => exact ⟨0, Nat.zero_le _, rfl, rfl, Lib.hid ⟨by simp, by simp⟩, Below.refl _ _⟩
  case round =>
    obtain ⟨k, hk, rfl, rfl, HG, hbb⟩ := hrel
    have HB := Lib.hid hbb
    clear hbb
    by_cases hlt : k < n
    · obtain ⟨ab, off, rfl, hb, hc⟩ := HR.out.at_ En.len (by omega)
      obtain ⟨e, he⟩ : ∃ e, l[k]? = some e := ⟨_, List.getElem?_eq_getElem (by rw [HL.out]; exact hlt)⟩
      obtain ⟨q0, q1⟩ := En.facts hb HB.out hc he
      have i0 : (0 : Int) ≤ (k : Int) := by omega
      have i1 : (k : Int) < (n : Int) := by omega
      have HNX := Lib.hid (right_next HG.out he)
      obtain ⟨em, ei⟩ := e
      simp only at q0 q1
      have HBL := Lib.hid (HB.out.alloc HB.out.size (.cells #[.string em, .int .i64 ei] 30))
      have f0 := (Blk.new wr 30 [.string em, .int .i64 ei]).cell (k := 0) rfl
      go_upto_region 4 with (fail)
      generalize wr.alloc (.cells #[.string em, .int .i64 ei] 30) = wo at f0 HBL ⊢
      generalize wr.heap.size = gx at f0 ⊢
      have f0' := fun z : LaterOf wo => z.cell f0
      obtain ⟨gb, hgb⟩ : ∃ gb : Bool, gb = true ↔ GoodB em := ⟨decide (GoodB em), by simp⟩
      have HGB := Lib.hid hgb
      have cG := Lib.hid (fun z : LaterOf wo => dgood_any em gb z.w hgb)
      clear hgb f0 q0 q1
      cases gb with
      | false =>
        obtain rfl : b = false := by
          cases b with
          | false => rfl
          | true =>
            have h1 := (HNX.out.1 ((HBI.out.1 rfl).take _)).1
            exact absurd (HGB.out.2 h1) (by decide)
        clear HNX
        refine wp_region_later (by kernel_rfl) (by kernel_rfl) ?_
        repeat (go_big_quiet_step (with_reducible exact Calls.later (cG.out _)))
        refine wpQuiet_nil ?_; intro xw hw'; obtain ⟨xq, hw''⟩ := hw'; obtain ⟨xw0, xh⟩ := xq; change xw = xw0 at hw''; subst hw''
        go_wp2
        go_ret
        exact Ret.mk rfl (HBL.out.trans (xh.mono HBL.out.size))
      | true =>
        by_cases hk0 : k = 0
        · subst hk0
          have HN : Hid (RightL (l.take (0 + 1))) := Lib.hid (HNX.out.2 ⟨by have := HGB.out; simpa using this, fun p h => by omega⟩)
          have k1 : decide ((0 : Int) < ((0 : Nat) : Int)) = false := by simp
          clear HNX
          refine wp_region_later (by kernel_rfl) (by kernel_rfl) ?_
          repeat (go_big_quiet_step (with_reducible exact Calls.later (cG.out _)))
          refine wpQuiet_nil ?_; intro xw hw'; obtain ⟨xq, hw''⟩ := hw'; obtain ⟨xw0, xh⟩ := xq; change xw = xw0 at hw''; subst hw''
          go_wp2
          go_roundg (n - (0 + 1))
          case measure => omega
          case rel => exact ⟨0 + 1, by omega, rfl, rfl, HN, HBL.out.trans (xh.mono HBL.out.size)⟩
        · obtain ⟨m, hm⟩ : ∃ m, m + 1 = k := ⟨k - 1, by omega⟩
          obtain ⟨p, hp⟩ : ∃ p, l[m]? = some p := ⟨_, List.getElem?_eq_getElem (by rw [HL.out]; omega)⟩
          obtain ⟨p0, p1⟩ := En.facts hb HBL.out hc hp
          have p0' := fun z : LaterOf wo => z.cell p0
          have HP : Hid (l[k - 1]? = some p) := Lib.hid (by rw [show k - 1 = m by omega]; exact hp)
          have k1 : decide (0 < k) = true := decide_eq_true (by omega)
          have k2 : (k : Int) - 1 = (m : Int) := by omega
          have k3 : (0 : Int) ≤ (m : Int) := by omega
          have k4 : (m : Int) < (n : Int) := by omega
          have hle := leq_iff em p.nm
          obtain ⟨lb, hlb⟩ : ∃ lb, (Op.bytesLess em.toList p.nm.toList || em.toList == p.nm.toList) = lb := ⟨_, rfl⟩
          rw [hlb] at hle
          have HLE := Lib.hid hle
          clear hp p0 p1 hc hm hle
          cases lb with
          | true =>
            obtain rfl : b = false := by
              cases b with
              | false => rfl
              | true =>
                have h1 := (HNX.out.1 ((HBI.out.1 rfl).take _)).2 p (by omega) HP.out
                exact absurd (HLE.out.2 h1) (by decide)
            clear HNX
            refine wp_region_later (by kernel_rfl) (by kernel_rfl) ?_
            repeat (go_big_quiet_step (with_reducible exact Calls.later (cG.out _)))
            refine wpQuiet_nil ?_; intro xw hw'; obtain ⟨xq, hw''⟩ := hw'; obtain ⟨xw0, xh⟩ := xq; change xw = xw0 at hw''; subst hw''
            go_wp2
            go_ret
            exact Ret.mk rfl (HBL.out.trans (xh.mono HBL.out.size))
          | false =>
            have HN : Hid (RightL (l.take (k + 1))) := Lib.hid (HNX.out.2 ⟨by have := HGB.out; simpa using this, fun p' _ hp' => by have h := HP.out; rw [hp'] at h; cases h; exact HLE.out.1 rfl⟩)
            clear HNX
            refine wp_region_later (by kernel_rfl) (by kernel_rfl) ?_
            repeat (go_big_quiet_step (with_reducible exact Calls.later (cG.out _)))
            refine wpQuiet_nil ?_; intro xw hw'; obtain ⟨xq, hw''⟩ := hw'; obtain ⟨xw0, xh⟩ := xq; change xw = xw0 at hw''; subst hw''
            go_wp2
            go_roundg (n - (k + 1))
            case measure => omega
            case rel => exact ⟨k + 1, by omega, rfl, by go_num, HN, HBL.out.trans (xh.mono HBL.out.size)⟩
    · obtain rfl : b = true := HBI.out.2 (by have h := HG.out; rwa [List.take_of_length_le (by rw [HL.out]; omega)] at h)
      go_wp2
      go_ret
      exact Ret.mk rfl HB.out
end Dr
end Go.Proofs.Ytelgalhkggnkbab
