/-
  The plain law of TopCached: a cache of pages tells and stores what a memory would, and so does a flash. Plain Lean, no program. Conditions: none.
-/
import Derived.Test.YtjopiepfjbnkbaaGreatDoorCaM
import Derived.Test.YtjopiepfjbnkbaaGreatDoorFtWb
namespace Go.Proofs.YtjopiepfjbnkbaaGreatDoor
set_option linter.unusedVariables false
namespace Tc

def val (h : Int → Option Int) (n : Nat) : Int := (h (n : Int)).getD 0
theorem val_same (h : Int → Option Int) (n : Nat) (d : Int) : val (mup h (n : Int) d) n = d := by unfold val; rw [mup_same]; rfl
theorem val_other (h : Int → Option Int) {n m : Nat} (d : Int) (e : m ≠ n) : val (mup h (n : Int) d) m = val h m := by unfold val; rw [mup_other _ _ (by omega)]
structure Rel (c : Ca.Cs) (h : Int → Option Int) : Prop where
  inL : ∀ p ∈ c.L, val h p.n = p.d
  out : ∀ n, n < 16 → (∀ p ∈ c.L, p.n ≠ n) → c.st[n]? = some (val h n)
  cl : ∀ p ∈ c.L, p.w = false → c.st[p.n]? = some p.d

/-! writing back -/
theorem put1_no {q : Ca.Pg} {st : List Int} {n : Nat} (h : q.n ≠ n) : (Ca.put1 q st)[n]? = st[n]? := by
  unfold Ca.put1
  split
  · rw [List.getElem?_set, if_neg h]
  · rfl
theorem put1_yes {q : Ca.Pg} {st : List Int} (hl : q.n < st.length) (hc : q.w = false → st[q.n]? = some q.d) : (Ca.put1 q st)[q.n]? = some q.d := by
  unfold Ca.put1
  cases h : q.w with
  | true => rw [if_pos rfl, List.getElem?_set, if_pos rfl, if_pos hl]
  | false => rw [if_neg (by simp)]; exact hc h
theorem flush_out : ∀ (L : List Ca.Pg) (st : List Int) (n : Nat), (∀ p ∈ L, p.n ≠ n) → (Ca.flushS L st)[n]? = st[n]?
  | [], st, n, _ => rfl
  | q :: t, st, n, h => by
    have ih := flush_out t (Ca.put1 q st) n (fun p hp => h p (by simp [hp]))
    exact ih.trans (put1_no (h q (by simp)))
theorem flush_in : ∀ (L : List Ca.Pg) (st : List Int) (p : Ca.Pg), (L.map Ca.Pg.n).Nodup → p ∈ L → p.n < st.length → (p.w = false → st[p.n]? = some p.d) → (Ca.flushS L st)[p.n]? = some p.d
  | [], st, p, _, h, _, _ => by cases h
  | q :: t, st, p, hnd, hp, hl, hc => by
    rw [List.map_cons, List.nodup_cons] at hnd
    show (Ca.flushS t (Ca.put1 q st))[p.n]? = _
    rcases List.mem_cons.1 hp with rfl | hp
    · rw [flush_out t _ _ (fun x hx e => hnd.1 (List.mem_map.2 ⟨x, hx, e⟩))]
      exact put1_yes hl hc
    · have hne : q.n ≠ p.n := fun e => hnd.1 (List.mem_map.2 ⟨p, hp, e.symm⟩)
      refine flush_in t _ p hnd.2 hp (by rw [Ca.put1_len]; exact hl) (fun hw => ?_)
      rw [put1_no hne]
      exact hc hw

/-! one operation -/
def fops (o : Ca.O) : List Ft.O := if o.kind = 1 then [⟨2, o.page, 0⟩] else if o.kind = 2 then [⟨1, o.page, o.data⟩] else []
theorem ft_read (h : Int → Option Int) (n : Nat) (hn : n < 16) (x : Int) : ∃ e, Ft.Way h ⟨2, (n : Int), x⟩ e (val h n) h := by
  unfold val
  cases hh : h (n : Int) with
  | none => exact ⟨3, .none hn (.inl rfl) hh⟩
  | some z => exact ⟨0, .read hn hh⟩
theorem mem_erase {L : List Ca.Pg} {i : Nat} {p q : Ca.Pg} (hi : L[i]? = some p) (hq : q ∈ L) : q ∈ L.eraseIdx i ∨ q = p := by
  obtain ⟨j, hj⟩ := List.getElem?_of_mem hq
  by_cases e : j = i
  · subst e
    rw [hi] at hj
    exact .inr (Option.some.inj hj).symm
  · refine .inl ?_
    rw [List.mem_eraseIdx_iff_getElem?]
    exact ⟨j, e, hj⟩
theorem step {size : Nat} {c c' : Ca.Cs} {h : Int → Option Int} {o : Ca.O} (R : Rel c h) (hc : Ca.Ok size c) (hg : Ca.Good o) (hw : Ca.Way size c o c') :
    ∃ h' ds, Rel c' h' ∧ c'.rd = c.rd ++ ds ∧ ((o.kind = 1 ∧ h' = h ∧ ∃ e d, ds = [d] ∧ Ft.Way h ⟨2, o.page, 0⟩ e d h) ∨ (o.kind = 2 ∧ ds = [] ∧ Ft.Way h ⟨1, o.page, o.data⟩ 0 0 h') ∨ (o.kind = 3 ∧ ds = [] ∧ h' = h)) := by
  obtain ⟨r1, r2, r3⟩ := R
  obtain ⟨a1, a2, a3, a4⟩ := hc
  obtain ⟨g1, g2, g3, g4⟩ := hg
  cases hw with
  | flush hk =>
    refine ⟨h, [], ⟨fun p hp => ?_, fun n hn ho => ?_, fun p hp hw => ?_⟩, by simp, .inr (.inr ⟨hk, rfl, rfl⟩)⟩
    · obtain ⟨q, hq, rfl⟩ := List.mem_map.1 hp
      exact r1 q hq
    · show (Ca.flushS c.L c.st)[n]? = _
      have ho' : ∀ p ∈ c.L, p.n ≠ n := fun p hp => ho p.clean (List.mem_map.2 ⟨p, hp, rfl⟩)
      rw [flush_out _ _ _ ho']
      exact r2 n hn ho'
    · obtain ⟨q, hq, rfl⟩ := List.mem_map.1 hp
      exact flush_in c.L c.st q a4 hq (by rw [a2]; exact a3 q hq) (r3 q hq)
  | @hitR i p hk hi hp =>
    have hm := List.mem_of_getElem? hi
    have hd := r1 p hm
    have h16 := a3 p hm
    obtain ⟨e, he⟩ := ft_read h p.n h16 0
    rw [hd, hp] at he
    refine ⟨h, [p.d], ⟨fun q hq => ?_, fun n hn ho => ?_, fun q hq hw => ?_⟩, rfl, .inl ⟨hk, rfl, e, p.d, rfl, he⟩⟩
    · rcases List.mem_append.1 hq with hq | hq
      · exact r1 q ((List.eraseIdx_sublist _ _).subset hq)
      · rw [List.mem_singleton.1 hq]; exact hd
    · exact r2 n hn (fun q hq => by
        rcases mem_erase hi hq with hq | rfl
        · exact ho q (by simp [hq])
        · exact ho _ (by simp))
    · rcases List.mem_append.1 hq with hq | hq
      · exact r3 q ((List.eraseIdx_sublist _ _).subset hq) hw
      · rw [List.mem_singleton.1 hq] at hw ⊢; exact r3 p hm hw
  | @hitW i p hk hi hp =>
    have hm := List.mem_of_getElem? hi
    have h16 := a3 p hm
    obtain ⟨b1, b2⟩ := Ca.erase_nd a4 hi
    have hne : ∀ q ∈ c.L.eraseIdx i, q.n ≠ p.n := fun q hq e => b2 (List.mem_map.2 ⟨q, hq, e⟩)
    refine ⟨mup h (p.n : Int) o.data, [], ⟨fun q hq => ?_, fun n hn ho => ?_, fun q hq hw => ?_⟩, by simp, .inr (.inl ⟨hk, rfl, ?_⟩)⟩
    · rcases List.mem_append.1 hq with hq | hq
      · rw [val_other _ _ (hne q hq)]
        exact r1 q ((List.eraseIdx_sublist _ _).subset hq)
      · rw [List.mem_singleton.1 hq]; exact val_same _ _ _
    · have hn2 : n ≠ p.n := fun e => ho ⟨p.n, o.data, true⟩ (by simp) e.symm
      rw [val_other _ _ hn2]
      exact r2 n hn (fun q hq => by
        rcases mem_erase hi hq with hq | rfl
        · exact ho q (by simp [hq])
        · exact fun e => hn2 e.symm)
    · rcases List.mem_append.1 hq with hq | hq
      · exact r3 q ((List.eraseIdx_sublist _ _).subset hq) hw
      · rw [List.mem_singleton.1 hq] at hw; cases hw
    · rw [← hp]; exact .write h16
  | @missR n x hk hn ho hl hx =>
    have h16 : n < 16 := by omega
    have hv := r2 n h16 (fun p hp e => ho p hp (by omega))
    have hxv : val h n = x := by
      have hx' : c.st[n]? = some x := hx
      rw [hx'] at hv
      exact (Option.some.inj hv).symm
    obtain ⟨e, he⟩ := ft_read h n h16 0
    rw [hxv, hn] at he
    refine ⟨h, [x], ⟨fun q hq => ?_, fun m hm hom => ?_, fun q hq hw => ?_⟩, rfl, .inl ⟨hk, rfl, e, x, rfl, he⟩⟩
    · rcases List.mem_append.1 hq with hq | hq
      · exact r1 q hq
      · rw [List.mem_singleton.1 hq]; exact hxv
    · exact r2 m hm (fun q hq => hom q (by simp [hq]))
    · rcases List.mem_append.1 hq with hq | hq
      · exact r3 q hq hw
      · rw [List.mem_singleton.1 hq]; exact hx
  | @missW n hk hn ho hl =>
    have h16 : n < 16 := by omega
    refine ⟨mup h (n : Int) o.data, [], ⟨fun q hq => ?_, fun m hm hom => ?_, fun q hq hw => ?_⟩, by simp, .inr (.inl ⟨hk, rfl, ?_⟩)⟩
    · rcases List.mem_append.1 hq with hq | hq
      · rw [val_other _ _ (fun e => ho q hq (by omega))]
        exact r1 q hq
      · rw [List.mem_singleton.1 hq]; exact val_same _ _ _
    · have hn2 : m ≠ n := fun e => hom ⟨n, o.data, true⟩ (by simp) e.symm
      rw [val_other _ _ hn2]
      exact r2 m hm (fun q hq => hom q (by simp [hq]))
    · rcases List.mem_append.1 hq with hq | hq
      · exact r3 q hq hw
      · rw [List.mem_singleton.1 hq] at hw; cases hw
    · rw [← hn]; exact .write h16
  | @fullR n x q t hk hn ho hl hL hx =>
    have h16 : n < 16 := by omega
    have hqm : q ∈ c.L := by rw [hL]; simp
    have hqn : q.n ≠ n := fun e => ho q hqm (by omega)
    have hv := r2 n h16 (fun p hp e => ho p hp (by omega))
    have hxv : val h n = x := by
      have hx' : (Ca.put1 q c.st)[n]? = some x := hx
      rw [put1_no hqn, hv] at hx'
      exact Option.some.inj hx'
    have hnd := a4
    rw [hL, List.map_cons, List.nodup_cons] at hnd
    have hqt : ∀ p ∈ t, q.n ≠ p.n := fun p hp e => hnd.1 (List.mem_map.2 ⟨p, hp, e.symm⟩)
    obtain ⟨e, he⟩ := ft_read h n h16 0
    rw [hxv, hn] at he
    refine ⟨h, [x], ⟨fun p hp => ?_, fun m hm hom => ?_, fun p hp hw => ?_⟩, rfl, .inl ⟨hk, rfl, e, x, rfl, he⟩⟩
    · rcases List.mem_append.1 hp with hp | hp
      · exact r1 p (by rw [hL]; simp [hp])
      · rw [List.mem_singleton.1 hp]; exact hxv
    · show (Ca.put1 q c.st)[m]? = _
      by_cases e : q.n = m
      · subst e
        rw [put1_yes (by rw [a2]; exact a3 q hqm) (r3 q hqm), r1 q hqm]
      · rw [put1_no e]
        exact r2 m hm (fun p hp => by
          rw [hL] at hp
          rcases List.mem_cons.1 hp with rfl | hp
          · exact e
          · exact hom p (by simp [hp]))
    · show (Ca.put1 q c.st)[p.n]? = _
      rcases List.mem_append.1 hp with hp | hp
      · rw [put1_no (hqt p hp)]
        exact r3 p (by rw [hL]; simp [hp]) hw
      · rw [List.mem_singleton.1 hp]; exact hx
  | @fullW n q t hk hn ho hl hL =>
    have h16 : n < 16 := by omega
    have hqm : q ∈ c.L := by rw [hL]; simp
    have hnd := a4
    rw [hL, List.map_cons, List.nodup_cons] at hnd
    have hqt : ∀ p ∈ t, q.n ≠ p.n := fun p hp e => hnd.1 (List.mem_map.2 ⟨p, hp, e.symm⟩)
    refine ⟨mup h (n : Int) o.data, [], ⟨fun p hp => ?_, fun m hm hom => ?_, fun p hp hw => ?_⟩, by simp, .inr (.inl ⟨hk, rfl, ?_⟩)⟩
    · rcases List.mem_append.1 hp with hp | hp
      · have hpm : p ∈ c.L := by rw [hL]; simp [hp]
        rw [val_other _ _ (fun e => ho p hpm (by omega))]
        exact r1 p hpm
      · rw [List.mem_singleton.1 hp]; exact val_same _ _ _
    · have hn2 : m ≠ n := fun e => hom ⟨n, o.data, true⟩ (by simp) e.symm
      rw [val_other _ _ hn2]
      show (Ca.put1 q c.st)[m]? = _
      by_cases e : q.n = m
      · subst e
        rw [put1_yes (by rw [a2]; exact a3 q hqm) (r3 q hqm), r1 q hqm]
      · rw [put1_no e]
        exact r2 m hm (fun p hp => by
          rw [hL] at hp
          rcases List.mem_cons.1 hp with rfl | hp
          · exact e
          · exact hom p (by simp [hp]))
    · show (Ca.put1 q c.st)[p.n]? = _
      rcases List.mem_append.1 hp with hp | hp
      · rw [put1_no (hqt p hp)]
        exact r3 p (by rw [hL]; simp [hp]) hw
      · rw [List.mem_singleton.1 hp] at hw; cases hw
    · rw [← hn]; exact .write h16

/-! all operations -/
/-- where the reads stand -/
def rp (b : Nat) : List Ca.O → List Nat
  | [] => []
  | o :: os => (if o.kind = 1 then [b] else []) ++ rp (b + (fops o).length) os
theorem rp_snoc (o : Ca.O) : ∀ (os : List Ca.O) (b : Nat), rp b (os ++ [o]) = rp b os ++ (if o.kind = 1 then [b + (os.flatMap fops).length] else [])
  | [], b => by simp [rp]
  | x :: os, b => by
    rw [List.cons_append, rp, rp, rp_snoc o os, List.flatMap_cons, List.length_append, List.append_assoc, Nat.add_assoc]
theorem rp_nil_kind {o : Ca.O} (h : o.kind = 3) (os : List Ca.O) (b : Nat) : rp b (os ++ [o]) = rp b os := by
  rw [rp_snoc, if_neg (by rw [h]; decide), List.append_nil]
theorem run {size : Nat} (h1 : 1 ≤ size) : ∀ (os : List Ca.O) (c cf : Ca.Cs) (h : Int → Option Int), Ca.Plays size c os cf → Rel c h → Ca.Ok size c → (∀ o ∈ os, Ca.Good o) →
    ∃ (h' : Int → Option Int) (as_ : List Ft.A) (ds : List Int), Rel cf h' ∧ Ca.Ok size cf ∧ as_.length = (os.flatMap fops).length ∧ cf.rd = c.rd ++ ds ∧ (∀ b, ds.length = (rp b os).length) ∧ (∀ ys bs, Ft.Plays h' ys bs → Ft.Plays h (os.flatMap fops ++ ys) (as_ ++ bs)) ∧
      ∀ (b k at_ : Nat) (d : Int), (rp b os)[k]? = some at_ → ds[k]? = some d → b ≤ at_ ∧ ∃ e, as_[at_ - b]? = some ⟨e, d⟩
  | [], c, cf, h, hp, R, hok, _ => by
    cases hp
    exact ⟨h, [], [], R, hok, rfl, by simp, fun b => rfl, fun ys bs hy => hy, fun b k at_ d h1 _ => by simp [rp] at h1⟩
  | o :: os, c, cf, h, hp, R, hok, hg => by
    cases hp with
    | cons hw ht =>
      have hgo := hg o (by simp)
      obtain ⟨h2, ds, R2, hrd, hcase⟩ := step R hok hgo hw
      obtain ⟨h', as_, ds', Rf, okf, hlen, hrd', hdl, hpl, hat⟩ := run h1 os _ cf h2 ht R2 (Ca.way_ok hok hgo h1 hw) (fun x hx => hg x (by simp [hx]))
      rcases hcase with ⟨hk, rfl, e, d, rfl, hfw⟩ | ⟨hk, rfl, hfw⟩ | ⟨hk, rfl, rfl⟩
      · have hf : fops o = [⟨2, o.page, 0⟩] := if_pos hk
        refine ⟨h', ⟨e, d⟩ :: as_, d :: ds', Rf, okf, ?_, ?_, fun b => ?_, fun ys bs hy => ?_, fun b k at_ x hk1 hk2 => ?_⟩
        · rw [List.flatMap_cons, hf, List.length_append, List.length_cons, hlen]
          simp
          omega
        · rw [hrd', hrd, List.append_assoc]; rfl
        · rw [rp, if_pos hk, List.length_append, List.length_cons, hdl (b + (fops o).length)]
          simp
          omega
        · rw [List.flatMap_cons, hf]
          exact .cons hfw (hpl ys bs hy)
        · rw [rp, if_pos hk, hf] at hk1
          cases k with
          | zero =>
            obtain rfl : b = at_ := by simpa using hk1
            obtain rfl : d = x := by simpa using hk2
            exact ⟨Nat.le_refl _, e, by rw [Nat.sub_self]; rfl⟩
          | succ k =>
            have hk1' : (rp (b + 1) os)[k]? = some at_ := by simpa using hk1
            have hk2' : ds'[k]? = some x := by simpa using hk2
            obtain ⟨hb, e', he⟩ := hat (b + 1) k at_ x hk1' hk2'
            exact ⟨by omega, e', by rw [show at_ - b = (at_ - (b + 1)) + 1 by omega]; simpa using he⟩
      · have hf : fops o = [⟨1, o.page, o.data⟩] := by unfold fops; rw [if_neg (by omega), if_pos hk]
        have hk' : ¬ o.kind = 1 := by omega
        refine ⟨h', ⟨0, 0⟩ :: as_, ds', Rf, okf, ?_, ?_, fun b => ?_, fun ys bs hy => ?_, fun b k at_ x hk1 hk2 => ?_⟩
        · rw [List.flatMap_cons, hf, List.length_append, List.length_cons, hlen]
          simp
          omega
        · rw [hrd', hrd, List.append_nil]
        · rw [rp, if_neg hk', List.nil_append]
          exact hdl _
        · rw [List.flatMap_cons, hf]
          exact .cons hfw (hpl ys bs hy)
        · rw [rp, if_neg hk', hf, List.nil_append] at hk1
          obtain ⟨hb, e', he⟩ := hat (b + 1) k at_ x hk1 hk2
          exact ⟨by omega, e', by rw [show at_ - b = (at_ - (b + 1)) + 1 by omega]; simpa using he⟩
      · have hf : fops o = [] := by unfold fops; rw [if_neg (by omega), if_neg (by omega)]
        have hk' : ¬ o.kind = 1 := by omega
        refine ⟨h', as_, ds', Rf, okf, ?_, ?_, fun b => ?_, fun ys bs hy => ?_, fun b k at_ x hk1 hk2 => ?_⟩
        · rw [List.flatMap_cons, hf, hlen]; rfl
        · rw [hrd', hrd, List.append_nil]
        · rw [rp, if_neg hk', List.nil_append]
          exact hdl _
        · rw [List.flatMap_cons, hf]
          exact hpl ys bs hy
        · rw [rp, if_neg hk', hf, List.nil_append] at hk1
          exact hat b k at_ x hk1 hk2

/-! the end: all is stored, and all numbers are read -/
theorem rel0 : Rel ⟨[], [], 0, 0, List.replicate 16 0⟩ mno := ⟨fun p hp => (by cases hp), fun n hn _ => (by rw [List.getElem?_replicate, if_pos hn]; rfl), fun p hp => (by cases hp)⟩
theorem plays_snoc {size : Nat} {o : Ca.O} : ∀ {os : List Ca.O} {c cf : Ca.Cs}, Ca.Plays size c (os ++ [o]) cf → ∃ c1, Ca.Plays size c os c1 ∧ Ca.Way size c1 o cf
  | [], c, cf, h => by
    cases h with
    | cons hw ht => cases ht; exact ⟨c, .nil, hw⟩
  | x :: os, c, cf, h => by
    cases h with
    | cons hw ht =>
      obtain ⟨c1, h1, h2⟩ := plays_snoc ht
      exact ⟨c1, .cons hw h1, h2⟩
theorem stored {size : Nat} {c cf : Ca.Cs} {h : Int → Option Int} {o : Ca.O} (hk : o.kind = 3) (hw : Ca.Way size c o cf) (R : Rel cf h) (hok : Ca.Ok size cf) : ∀ n, n < 16 → cf.st[n]? = some (val h n) := by
  have hcl : ∀ p ∈ cf.L, p.w = false := by
    cases hw with
    | flush hk => intro p hp; obtain ⟨q, _, rfl⟩ := List.mem_map.1 hp; rfl
    | _ => omega
  intro n hn
  by_cases hin : ∃ p ∈ cf.L, p.n = n
  · obtain ⟨p, hp, rfl⟩ := hin
    rw [R.cl p hp (hcl p hp), R.inL p hp]
  · exact R.out n hn (fun p hp e => hin ⟨p, hp, e⟩)
def rds (ns : List Nat) : List Ft.O := ns.map fun (n : Nat) => (⟨2, (n : Int), 0⟩ : Ft.O)
theorem reads (h : Int → Option Int) : ∀ ns : List Nat, (∀ n ∈ ns, n < 16) → ∃ bs : List Ft.A, Ft.Plays h (rds ns) bs ∧ bs.length = ns.length ∧ ∀ (i n : Nat), ns[i]? = some n → ∃ e, bs[i]? = some (⟨e, val h n⟩ : Ft.A)
  | [], _ => ⟨[], .nil, rfl, fun i n hi => (by simp at hi)⟩
  | n :: ns, hn => by
    obtain ⟨bs, h1, h2, h3⟩ := reads h ns (fun m hm => hn m (by simp [hm]))
    obtain ⟨e, he⟩ := ft_read h n (hn n (by simp)) 0
    refine ⟨⟨e, val h n⟩ :: bs, .cons he h1, by simp [h2], fun i m hi => ?_⟩
    cases i with
    | zero =>
      obtain rfl : n = m := by simpa using hi
      exact ⟨e, rfl⟩
    | succ i =>
      obtain ⟨e', he'⟩ := h3 i m (by simpa using hi)
      exact ⟨e', by simpa using he'⟩
theorem fops_le : ∀ os : List Ca.O, (os.flatMap fops).length ≤ os.length
  | [] => Nat.le_refl _
  | o :: os => by
    have ih := fops_le os
    have h1 : (fops o).length ≤ 1 := by unfold fops; split <;> (try split) <;> simp
    rw [List.flatMap_cons, List.length_append, List.length_cons]
    omega
theorem rp_le : ∀ (os : List Ca.O) (b : Nat), (rp b os).length ≤ os.length
  | [], b => Nat.le_refl _
  | o :: os, b => by
    have ih := rp_le os (b + (fops o).length)
    rw [rp, List.length_append, List.length_cons]
    have : (if o.kind = 1 then [b] else ([] : List Nat)).length ≤ 1 := by split <;> simp
    omega
/-- what both tell -/
theorem law {size : Nat} (h1 : 1 ≤ size) {os : List Ca.O} {cf : Ca.Cs} (hg : ∀ o ∈ os, Ca.Good o) (hp : Ca.Plays size ⟨[], [], 0, 0, List.replicate 16 0⟩ (os ++ [⟨3, 0, 0⟩]) cf) (hok : Ca.Ok size ⟨[], [], 0, 0, List.replicate 16 0⟩) :
    ∃ as_ : List Ft.A, Ft.Plays mno (os.flatMap fops ++ rds (List.range 16)) as_ ∧ as_.length = (os.flatMap fops).length + 16 ∧ cf.rd.length = (rp 0 os).length ∧ cf.st.length = 16 ∧
      (∀ (k at_ : Nat), (rp 0 os)[k]? = some at_ → at_ < (os.flatMap fops).length ∧ ∃ e d : Int, cf.rd[k]? = some d ∧ as_[at_]? = some ⟨e, d⟩) ∧
      ∀ p : Nat, p < 16 → ∃ e d : Int, cf.st[p]? = some d ∧ as_[(os.flatMap fops).length + p]? = some ⟨e, d⟩ := by
  have hg' : ∀ o ∈ os ++ [(⟨3, 0, 0⟩ : Ca.O)], Ca.Good o := fun o ho => by
    rcases List.mem_append.1 ho with h | h
    · exact hg o h
    · rw [List.mem_singleton.1 h]; exact ⟨by decide, by decide, by decide, by decide⟩
  obtain ⟨h', as_, ds, Rf, okf, hlen, hrd, hdl, hpl, hat⟩ := run h1 _ _ cf mno hp rel0 hok hg'
  obtain ⟨c1, _, hw⟩ := plays_snoc hp
  have hst := stored rfl hw Rf okf
  obtain ⟨bs, b1, b2, b3⟩ := reads h' (List.range 16) (fun n hn => List.mem_range.1 hn)
  have ef : (os ++ [(⟨3, 0, 0⟩ : Ca.O)]).flatMap fops = os.flatMap fops := by rw [List.flatMap_append]; simp [fops]
  have er : ∀ b, rp b (os ++ [(⟨3, 0, 0⟩ : Ca.O)]) = rp b os := fun b => rp_nil_kind rfl os b
  rw [ef] at hlen hpl
  have hrd2 : cf.rd = ds := by rw [hrd]; rfl
  have hd0 := hdl 0
  rw [er 0] at hd0
  refine ⟨as_ ++ bs, hpl _ _ b1, by rw [List.length_append, hlen, b2, List.length_range], by rw [hrd2, hd0], okf.st, fun k at_ hk => ?_, fun p hp16 => ?_⟩
  · obtain ⟨d, hd⟩ : ∃ d, ds[k]? = some d := ⟨_, List.getElem?_eq_getElem (by rw [hd0]; exact (List.getElem?_eq_some_iff.1 hk).1)⟩
    obtain ⟨_, e, he⟩ := hat 0 k at_ d (by rw [er 0]; exact hk) hd
    rw [Nat.sub_zero] at he
    have hlt := (List.getElem?_eq_some_iff.1 he).1
    exact ⟨by rw [← hlen]; exact hlt, e, d, by rw [hrd2]; exact hd, by rw [List.getElem?_append_left hlt]; exact he⟩
  · obtain ⟨e, he⟩ := b3 p p (by rw [List.getElem?_range hp16])
    exact ⟨e, val h' p, hst p hp16, by rw [List.getElem?_append_right (by omega), hlen, Nat.add_sub_cancel_left]; exact he⟩
end Tc
end Go.Proofs.YtjopiepfjbnkbaaGreatDoor
