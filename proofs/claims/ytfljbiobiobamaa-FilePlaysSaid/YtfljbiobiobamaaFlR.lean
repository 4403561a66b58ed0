/-
  Walk of the reference's RPlay. Conditions: none beyond each theorem's own premises.
-/
import Derived.Test.YtfljbiobiobamaaFlP
import Derived.Test.YtfljbiobiobamaaFul
import Derived.Test.YtfljbiobiobamaaHead
import Derived.Deep.RegionLaw
import Derived.BigRegion
namespace Go.Proofs.Ytfljbiobiobamaa
open Go.RowKit
set_option linter.unusedVariables false
namespace Fl

/-- the pages that are there, as a map of true -/
def uT : Unit → Value := fun _ => .bool true
def HTh (h : Int → Option Unit) (P : Nat → Bool) : Prop := ∀ x, (h x).isSome = true ↔ ∃ k : Nat, x = k ∧ P k = true
theorem HTh.nil : HTh mno (fun _ => false) := fun x => by simp [mno]
theorem HTh.add {h : Int → Option Unit} {P : Nat → Bool} (H : HTh h P) (k : Nat) : HTh (mup h (k : Int) ()) (padd P k) := fun x => by
  by_cases hx : x = k
  · subst hx
    rw [mup_same]
    simp only [Option.isSome_some, true_iff]
    exact ⟨k, rfl, by simp [padd]⟩
  · rw [mup_other _ _ hx, H x]
    constructor
    · rintro ⟨j, rfl, hj⟩
      exact ⟨j, rfl, by simp [padd, hj]⟩
    · rintro ⟨j, rfl, hj⟩
      refine ⟨j, rfl, ?_⟩
      unfold padd at hj
      rw [Bool.or_eq_true, decide_eq_true_eq] at hj
      rcases hj with hj | rfl
      · exact hj
      · exact absurd rfl hx
def hcutT (h : Int → Option Unit) (n : Nat) : Int → Option Unit := fun x => if x * 16 ≥ (n : Int) then none else h x
theorem HTh.cut {h : Int → Option Unit} {s : Sf} (H : HTh h s.P) (n : Nat) : HTh (hcutT h n) (s.cut n).P := fun x => by
  show _ ↔ ∃ k : Nat, x = k ∧ (s.P k && decide (16 * k < n)) = true
  unfold hcutT
  by_cases hx : x * 16 ≥ (n : Int)
  · rw [if_pos hx]
    simp only [Option.isSome_none, Bool.false_eq_true, false_iff]
    rintro ⟨k, rfl, hk⟩
    rw [Bool.and_eq_true, decide_eq_true_eq] at hk
    omega
  · rw [if_neg hx, H x]
    constructor
    · rintro ⟨k, rfl, hk⟩
      exact ⟨k, rfl, by rw [Bool.and_eq_true, decide_eq_true_eq]; exact ⟨hk, by omega⟩⟩
    · rintro ⟨k, rfl, hk⟩
      rw [Bool.and_eq_true] at hk
      exact ⟨k, rfl, hk.1⟩
def tT (gt nt : Nat) (ht : Int → Option Unit) : It := .map Try.prog 3 (Value.int .i64) uT gt nt ht
theorem mapT_keys {w0 w : World} {L : List It} (H : Sep w0 w L) (i : Nat) {g n : Nat} {h : Int → Option Unit} {P : Nat → Bool} (hi : L[i]? = some (tT g n h)) (hT : HTh h P) : ∃ ks : List Nat, ks.Nodup ∧ ks.length = n ∧ ∀ k, k ∈ ks ↔ P k = true := by
  obtain ⟨es, clock, hb, M⟩ := H.all i _ hi
  obtain ⟨ks, h1, h2, _, h4⟩ := M.keyList kintL
  have hx : ∀ x ∈ ks, ((x.toNat : Nat) : Int) = x := fun x hx => by
    obtain ⟨k, rfl, _⟩ := (hT x).1 ((h4 x).1 hx)
    rfl
  refine ⟨ks.map Int.toNat, ?_, by rw [List.length_map]; exact h2, fun k => ?_⟩
  · rw [List.nodup_iff_pairwise_ne, List.pairwise_map]
    refine List.Pairwise.imp_of_mem (fun {a b} ha hb hab e => hab ?_) h1
    rw [← hx a ha, ← hx b hb, e]
  · rw [List.mem_map]
    constructor
    · rintro ⟨x, hx1, rfl⟩
      obtain ⟨k, rfl, hk⟩ := (hT x).1 ((h4 x).1 hx1)
      exact hk
    · intro hk
      exact ⟨(k : Int), (h4 _).2 ((hT _).2 ⟨k, rfl, hk⟩), rfl⟩
theorem mapT_le {w0 w : World} {L : List It} (H : Sep w0 w L) (i : Nat) {g n : Nat} {h : Int → Option Unit} {P : Nat → Bool} (hi : L[i]? = some (tT g n h)) (hT : HTh h P) (hp : ∀ k, P k = true → k < 256) : n ≤ 256 := by
  obtain ⟨ks, h1, h2, h3⟩ := mapT_keys H i hi hT
  have := nodup_lt 256 ks h1 (fun x hx => hp x ((h3 x).1 hx))
  omega
theorem mapT_count {w0 w : World} {L : List It} (H : Sep w0 w L) (i : Nat) {g n : Nat} {h : Int → Option Unit} {P : Nat → Bool} (hi : L[i]? = some (tT g n h)) (hT : HTh h P) {bl : List (Nat × Nat)} (hk : PK bl P) : n = bl.length := by
  obtain ⟨ks, h1, h2, h3⟩ := mapT_keys H i hi hT
  have hp := (List.perm_ext_iff_of_nodup h1 hk.nd).2 fun x => (h3 x).trans (hk.mem x)
  have := hp.length_eq
  rw [List.length_map] at this
  omega
theorem bcell_set (l : List Nat) (k x : Nat) : (l.flatMap bcell).set k (.int .u8 (x : Int)) = (l.set k x).flatMap bcell := by
  induction l generalizing k with
  | nil => simp
  | cons c l ih =>
    cases k with
    | zero => simp [bcell]
    | succ k =>
      have : (List.flatMap bcell (c :: l)) = Value.int .u8 (c : Int) :: l.flatMap bcell := rfl
      rw [this, List.set_cons_succ, ih, List.set_cons_succ]
      rfl
/-- b, there, out -/
def RL (c : Nat → Nat) (N : Nat) (A5 : Option Addr) (c5 gt nt : Nat) (ht : Int → Option Unit) (A7 : Option Addr) (c7 k : Nat) (outs : List Am) (J : List It) : List It :=
  .rowF 5 1 (.slice A5 N c5) N ((row c N).flatMap bcell) :: tT gt nt ht :: .row 84 2 (.slice A7 k c7) k (outs.flatMap Am.cells) :: J
theorem fr_front {w0 w : World} {X Y Z O A : It} {R : List It} (H : Sep w0 w (((X :: Y :: Z :: R) ++ [O]) ++ [A])) : Sep w0 w (X :: Y :: Z :: O :: A :: R) := by
  refine H.perm ?_
  rw [List.append_assoc]
  refine List.Perm.cons _ (List.Perm.cons _ (List.Perm.cons _ ?_))
  exact List.perm_append_comm (l₁ := [O, A])
theorem fr_fin {w0 w : World} {X Y Z O A : It} {outs : List Am} {x : Am} (H : Sep w0 w (X :: Y :: Z :: O :: A :: outs.map Am.row)) (hx : x.row = .row 5 1 (.slice none 0 0) 0 [] := by rfl) : Sep w0 w (X :: Y :: Z :: (outs ++ [x]).map Am.row) := by
  have h := H.nilRow 5 1 none
  rw [List.map_append, List.map_singleton, hx]
  refine h.sub ?_
  exact .cons_cons _ (.cons_cons _ (.cons_cons _ (.cons _ (.cons _ (.refl _)))))
theorem fr_fin2 {w0 w : World} {X Y Z O A : It} {outs : List Am} {x : Am} (H : Sep w0 w (X :: Y :: Z :: O :: A :: x.row :: outs.map Am.row)) : Sep w0 w (X :: Y :: Z :: (outs ++ [x]).map Am.row) := by
  rw [List.map_append, List.map_singleton]
  refine Sep.perm (H.sub (L' := X :: Y :: Z :: x.row :: outs.map Am.row) (.cons_cons _ (.cons_cons _ (.cons_cons _ (.cons _ (.cons _ (.refl _))))))) ?_
  refine List.Perm.cons _ (List.Perm.cons _ (List.Perm.cons _ ?_))
  exact List.perm_append_comm (l₂ := [x.row])

theorem fr_row {w0 w : World} {X Y Z O A : It} {R : List It} (H : Sep w0 w (X :: Y :: Z :: O :: A :: R)) : Sep w0 w (X :: Y :: Z :: O :: A :: .row 5 1 (.slice none 0 0) 0 [] :: R) := by
  refine (H.nilRow 5 1 none).perm ?_
  refine List.Perm.cons _ (List.Perm.cons _ (List.Perm.cons _ (List.Perm.cons _ (List.Perm.cons _ ?_))))
  exact List.perm_append_comm (l₁ := [_])
theorem fr_last {X Y Z O A W I : It} {R : List It} : (X :: Y :: Z :: O :: A :: W :: (R ++ [I]))[R.length + 6]? = some I := by simp
theorem fr_cut {w0 w : World} {X Y Z O A W I : It} {R : List It} (H : Sep w0 w (X :: Y :: Z :: O :: A :: W :: (R ++ [I]))) : Sep w0 w (X :: Y :: Z :: O :: A :: W :: R) :=
  H.sub (.cons_cons _ (.cons_cons _ (.cons_cons _ (.cons_cons _ (.cons_cons _ (.cons_cons _ (List.sublist_append_left _ _)))))))
theorem hm_run {P : Program} {t e : TypeId} {C : Nat} (ht' : P.underlying t = some (.slice e)) (hC : ∀ w, (sizeOf e).run P w = .ok C w) (A : Option Addr) (n c k : Nat) (hk : k ≤ c) (w : World) :
    (Instr.slice t (.slice A n c) none (some (.int .i64 (k : Int))) (some (.int .i64 (k : Int)))).run P w = .ok (.slice A k k) w := by
  have he : P.elem t = e := by unfold Program.elem; rw [ht']
  have ht : P.underlying t = some (.slice (P.elem t)) := by rw [he]; exact ht'
  rw [run_slice_hm w t A n c ht .i64 .i64 (k : Int) (k : Int) (by omega) (by omega) (by omega), he, hC]
  simp only [Result.andThen, sliced, Nat.zero_mul, Nat.sub_zero, Int.toNat_natCast]
  congr 2
  cases A with
  | none => simp
  | some a => simp [Addr.add]
theorem mapT_keys2 {h : Int → Option Unit} {P : Nat → Bool} (hT : HTh h P) (hp : ∀ k, P k = true → k < 256) : ∀ x, (h x).isSome = true → 0 ≤ x ∧ x < 4096 := fun x hx => by
  obtain ⟨k, rfl, hk⟩ := (hT x).1 hx
  have := hp k hk
  omega

set_option maxRecDepth 100000 in
set_option maxHeartbeats 25600000 in
theorem rplay_any (A : Option Addr) (n c : Nat) (l : List Om) (es : List An) (sf : Sf) (w : World) (hr : OL w A n l) (hn : n * 48 ≤ 140737488355328) (hp : Plays 5 2 Sf.new (l.map Om.o) es sf) :
    Calls Try.prog 11 #[.slice A n c] w (fun e w' => ∃ (A1 : Option Addr) (n1 c1 q : Nat), e = .returned (.tuple #[.slice A1 n1 c1, .int .i64 (sf.L : Int), .int .i64 (q : Int)]) ∧ (∀ bl, PK bl sf.P → q = bl.length) ∧ PRet w es sf A1 n1 w') := by
  obtain ⟨ti, hti, t0, t1, t2⟩ := info_parts ans_info
  obtain ⟨i0, hib, hz0, hz1, hz2⟩ := info_parts byte_info
  have HR := Lib.hid hr
  have HP := Lib.hid hp
  clear hr hp
  have hmm := @run_makeMap Try.prog
  have H1 := ((((Sep.nil_ w).nilRow 5 1 none).toF 0 rfl).newMap Try.prog 3 (Value.int .i64) uT).nilRow 84 2 none
  have HS1 : Hid (Sep w (w.alloc (.map #[] 0)) (RL Sf.new.c 0 none 0 w.heap.size 0 mno none 0 0 [] [])) := Lib.hid H1
  clear H1
  go_enter Try.func11, Try.ntmps11
  go_upto_region 3 with (fail)
  generalize w.alloc (.map #[] 0) = u0 at HS1 ⊢
  generalize w.heap.size = gt at HS1 ⊢
  go_wp2
  go_loopg [5, 7, 18] n (fun g b v i wr => ∃ (k : Nat) (s : Sf) (nt : Nat) (ht : Int → Option Unit) (A5 : Option Addr) (c5 : Nat) (outs : List Am) (A7 : Option Addr) (c7 : Nat), k ≤ n ∧ g = n - k ∧ b = .slice A5 s.L c5 ∧ v = .slice A7 k c7 ∧ i = .int .i64 k ∧ Hid (outs.length = k) ∧ Hid (HTh ht s.P) ∧ Hid s.Ok ∧ Hid (∃ rest, Plays 5 2 s ((l.drop k).map Om.o) rest sf ∧ es = outs.map Am.an ++ rest) ∧
    Sep w wr (RL s.c s.L A5 c5 gt nt ht A7 c7 k outs (outs.map Am.row)))
  case atStart => exact ⟨0, Sf.new, 0, mno, none, 0, [], none, 0, Nat.zero_le _, rfl, rfl, rfl, rfl, Lib.hid rfl, Lib.hid HTh.nil, Lib.hid Sf.new_ok, Lib.hid ⟨es, by rw [List.drop_zero]; exact HP.out, rfl⟩, HS1.out⟩
  case round =>
    clear HS1 hmm
    obtain ⟨k, s, nt, ht, A5, c5, outs, A7, c7, hk, rfl, rfl, rfl, rfl, HOL, HT, HO, HF, hs⟩ := hrel
    have HS := Lib.hid hs
    clear hs
    by_cases hlt : k < n
    · obtain ⟨b, off, rfl, hb, hc⟩ := HR.out.rd.at_ Om.len (by omega)
      obtain ⟨x, hx⟩ : ∃ x, l[k]? = some x := ⟨_, List.getElem?_eq_getElem (by rw [HR.out.len]; exact hlt)⟩
      have hB := HS.out.below
      have c0 : wr.cell? ⟨b, off + k * 4, none⟩ = some (.int .i64 x.kind) := (hB.cell hb).trans (hc k 0 x _ hx rfl)
      have c1 : wr.cell? ⟨b, off + k * 4 + 1, none⟩ = some (.int .i64 x.at_) := (hB.cell hb).trans (hc k 1 x _ hx rfl)
      have c2 : wr.cell? ⟨b, off + k * 4 + 2, none⟩ = some (.int .i64 x.many) := (hB.cell hb).trans (hc k 2 x _ hx rfl)
      have c3 : wr.cell? ⟨b, off + k * 4 + 3, none⟩ = some (.slice x.A x.n x.c) := (hB.cell hb).trans (hc k 3 x _ hx rfl)
      have HQ := Lib.hid (HR.out.ok x (List.mem_of_getElem? hx))
      have hdr : (l.drop k).map Om.o = x.o :: (l.drop (k + 1)).map Om.o := by
        obtain ⟨hl, e⟩ := List.getElem?_eq_some_iff.1 hx
        rw [List.drop_eq_getElem_cons hl, e, List.map_cons]
      obtain ⟨a, s1, rest1, HWAY, HF2⟩ : ∃ (a : An) (s1 : Sf) (rest1 : List An), Hid (Way 5 2 s x.o a s1) ∧ Hid (Plays 5 2 s1 ((l.drop (k + 1)).map Om.o) rest1 sf ∧ es = outs.map Am.an ++ (a :: rest1)) := by
        obtain ⟨rest, h1, h2⟩ := HF.out
        rw [hdr] at h1
        cases h1 with
        | cons hw hp => exact ⟨_, _, _, Lib.hid hw, Lib.hid ⟨hp, h2⟩⟩
      have HO1 := Lib.hid (way_ok HO.out HQ.out.2.2.2.1 HWAY.out)
      clear hc hx hB hdr HF
      obtain ⟨kd, at_, mn, Ax, nx, cx, ds⟩ := x
      simp only at c0 c1 c2 c3
      unfold Om.o at HWAY
      simp only at HWAY
      go_upto_region 7 with (fail)
      have HS1 := Lib.hid (HS.out.new 77 [.int .i64 kd, .int .i64 at_, .int .i64 mn, .slice Ax nx cx])
      clear c0 c1 c2 c3 HS
      generalize wr.alloc (.cells #[.int .i64 kd, .int .i64 at_, .int .i64 mn, .slice Ax nx cx] 77) = wo at HS1 ⊢
      generalize wr.heap.size = gx at HS1 ⊢
      go_upto_block 2 with (fail)
      have HS3 := Lib.hid (fr_front (HS1.out.new 84 [.int .i64 0, .slice none 0 0]))
      clear HS1
      generalize wo.alloc (.cells #[.int .i64 0, .slice none 0 0] 84) = w3 at HS3 ⊢
      generalize wo.heap.size = ga at HS3 ⊢
      have d0 := HS3.out.cell 3 rfl (k := 0) rfl
      have d1 := HS3.out.cell 3 rfl (k := 1) rfl
      have d2 := HS3.out.cell 3 rfl (k := 2) rfl
      have d3 := HS3.out.cell 3 rfl (k := 3) rfl
      have g0 := HS3.out.cell 4 rfl (k := 0) rfl
      have g1 := HS3.out.cell 4 rfl (k := 1) rfl
      have q0 := HS3.out.froz 4 rfl (k := 0)
      have q1 := HS3.out.froz 4 rfl (k := 1)
      clear d0 d1 d2 d3 g0 g1 q0 q1
      go_cut [5] (fun bv wc => ∃ (A5 : Option Addr) (c5 nt : Nat) (ht : Int → Option Unit) (x : Am), bv = .slice A5 s1.L c5 ∧ x.an = a ∧ Hid (HTh ht s1.P) ∧ wc.cell? ⟨ga, 0, none⟩ = some (.int .i64 x.err) ∧ wc.cell? ⟨ga, 1, none⟩ = some (.slice x.A x.n x.c) ∧ Sep w wc (RL s1.c s1.L A5 c5 gt nt ht A7 c7 k outs ((outs ++ [x]).map Am.row)))
      case first =>
        have d0 := HS3.out.cell 3 rfl (k := 0) rfl
        have d1 := HS3.out.cell 3 rfl (k := 1) rfl
        have d2 := HS3.out.cell 3 rfl (k := 2) rfl
        have d3 := HS3.out.cell 3 rfl (k := 3) rfl
        have g0 := HS3.out.cell 4 rfl (k := 0) rfl
        have g1 := HS3.out.cell 4 rfl (k := 1) rfl
        have q0 := HS3.out.froz 4 rfl (k := 0)
        have q1 := HS3.out.froz 4 rfl (k := 1)
        clear HF2
        have HW2 := HWAY.out
        clear HWAY
        cases HW2 with
        | kind h1 =>
          simp only at h1
          by_cases h2 : kd < 1
          · clear h1
            have HZ := Lib.hid (HS3.out.set 4 rfl (k := 0) (.int .i64 5))
            go_wp2
            generalize w3.setCell ⟨ga, 0, none⟩ (.int .i64 5) = w5 at HZ ⊢
            have HS6 := Lib.hid (fr_fin (x := ⟨5, none, 0, 0, []⟩) HZ.out)
            have f0 := HZ.out.cell 4 rfl (k := 0) rfl
            have f1 := HZ.out.cell 4 rfl (k := 1) rfl
            go_meet
            exact ⟨A5, c5, nt, ht, ⟨5, none, 0, 0, []⟩, rfl, rfl, HT, f0, f1, HS6.out⟩
          · have h3 : kd > 3 := by omega
            clear h1
            have HZ := Lib.hid (HS3.out.set 4 rfl (k := 0) (.int .i64 5))
            go_wp2
            generalize w3.setCell ⟨ga, 0, none⟩ (.int .i64 5) = w5 at HZ ⊢
            have HS6 := Lib.hid (fr_fin (x := ⟨5, none, 0, 0, []⟩) HZ.out)
            have f0 := HZ.out.cell 4 rfl (k := 0) rfl
            have f1 := HZ.out.cell 4 rfl (k := 1) rfl
            go_meet
            exact ⟨A5, c5, nt, ht, ⟨5, none, 0, 0, []⟩, rfl, rfl, HT, f0, f1, HS6.out⟩
        | wbad h1 h2 =>
          as_aux_lemma =>
            simp only at h1 h2
            subst h1
            have hln := HQ.out.2.1
            simp only at hln
            rw [hln] at h2
            have hnx : nx ≤ 140737488355328 := HQ.out.2.2.1
            by_cases h3 : at_ < 0
            · clear h2
              have HZ := Lib.hid (HS3.out.set 4 rfl (k := 0) (.int .i64 2))
              go_wp2
              generalize w3.setCell ⟨ga, 0, none⟩ (.int .i64 2) = w5 at HZ ⊢
              have HS6 := Lib.hid (fr_fin (x := ⟨2, none, 0, 0, []⟩) HZ.out)
              have f0 := HZ.out.cell 4 rfl (k := 0) rfl
              have f1 := HZ.out.cell 4 rfl (k := 1) rfl
              go_meet
              exact ⟨A5, c5, nt, ht, ⟨2, none, 0, 0, []⟩, rfl, rfl, HT, f0, f1, HS6.out⟩
            · by_cases h4 : at_ > 4096
              · clear h2
                have HZ := Lib.hid (HS3.out.set 4 rfl (k := 0) (.int .i64 2))
                go_wp2
                generalize w3.setCell ⟨ga, 0, none⟩ (.int .i64 2) = w5 at HZ ⊢
                have HS6 := Lib.hid (fr_fin (x := ⟨2, none, 0, 0, []⟩) HZ.out)
                have f0 := HZ.out.cell 4 rfl (k := 0) rfl
                have f1 := HZ.out.cell 4 rfl (k := 1) rfl
                go_meet
                exact ⟨A5, c5, nt, ht, ⟨2, none, 0, 0, []⟩, rfl, rfl, HT, f0, f1, HS6.out⟩
              · have h5 : at_ + (nx : Int) > 4096 := by omega
                clear h2
                have HZ := Lib.hid (HS3.out.set 4 rfl (k := 0) (.int .i64 2))
                go_wp2
                generalize w3.setCell ⟨ga, 0, none⟩ (.int .i64 2) = w5 at HZ ⊢
                have HS6 := Lib.hid (fr_fin (x := ⟨2, none, 0, 0, []⟩) HZ.out)
                have f0 := HZ.out.cell 4 rfl (k := 0) rfl
                have f1 := HZ.out.cell 4 rfl (k := 1) rfl
                go_meet
                exact ⟨A5, c5, nt, ht, ⟨2, none, 0, 0, []⟩, rfl, rfl, HT, f0, f1, HS6.out⟩
        | rbad h1 h2 =>
          simp only at h1 h2
          subst h1
          obtain ⟨mi, HMI, hmi⟩ := min2_ex Try.prog at_ mn
          have hmi0 : mi < 0 := by have := HMI.out; split at this <;> omega
          clear h2
          have HZ := Lib.hid (HS3.out.set 4 rfl (k := 0) (.int .i64 2))
          go_wp2
          generalize w3.setCell ⟨ga, 0, none⟩ (.int .i64 2) = w5 at HZ ⊢
          have HS6 := Lib.hid (fr_fin (x := ⟨2, none, 0, 0, []⟩) HZ.out)
          have f0 := HZ.out.cell 4 rfl (k := 0) rfl
          have f1 := HZ.out.cell 4 rfl (k := 1) rfl
          go_meet
          exact ⟨A5, c5, nt, ht, ⟨2, none, 0, 0, []⟩, rfl, rfl, HT, f0, f1, HS6.out⟩
        | cbad h1 h2 =>
          simp only at h1 h2
          subst h1
          by_cases h3 : mn < 0
          · clear h2
            have HZ := Lib.hid (HS3.out.set 4 rfl (k := 0) (.int .i64 2))
            go_wp2
            generalize w3.setCell ⟨ga, 0, none⟩ (.int .i64 2) = w5 at HZ ⊢
            have HS6 := Lib.hid (fr_fin (x := ⟨2, none, 0, 0, []⟩) HZ.out)
            have f0 := HZ.out.cell 4 rfl (k := 0) rfl
            have f1 := HZ.out.cell 4 rfl (k := 1) rfl
            go_meet
            exact ⟨A5, c5, nt, ht, ⟨2, none, 0, 0, []⟩, rfl, rfl, HT, f0, f1, HS6.out⟩
          · have h4 : mn > 4096 := by omega
            clear h2
            have HZ := Lib.hid (HS3.out.set 4 rfl (k := 0) (.int .i64 2))
            go_wp2
            generalize w3.setCell ⟨ga, 0, none⟩ (.int .i64 2) = w5 at HZ ⊢
            have HS6 := Lib.hid (fr_fin (x := ⟨2, none, 0, 0, []⟩) HZ.out)
            have f0 := HZ.out.cell 4 rfl (k := 0) rfl
            have f1 := HZ.out.cell 4 rfl (k := 1) rfl
            go_meet
            exact ⟨A5, c5, nt, ht, ⟨2, none, 0, 0, []⟩, rfl, rfl, HT, f0, f1, HS6.out⟩
        | write X h1 h2 h3 =>
          as_aux_lemma =>
            simp only at h1 h2 h3
            subst h1 h2
            have hln := HQ.out.2.1
            simp only at hln
            rw [hln] at h3
            by_cases h0 : nx = 0
            · subst h0
              obtain rfl := List.eq_nil_of_length_eq_zero hln
              go_wp2
              have HS6 := Lib.hid (fr_fin (x := ⟨0, none, 0, 0, []⟩) HS3.out (by rfl))
              have f0 := HS3.out.cell 4 rfl (k := 0) rfl
              have f1 := HS3.out.cell 4 rfl (k := 1) rfl
              go_meet
              exact ⟨A5, c5, nt, ht, ⟨0, none, 0, 0, []⟩, rfl, rfl, HT, f0, f1, HS6.out⟩
            · have h4 : (0 : Int) < (nx : Int) := by omega
              obtain ⟨N, HN⟩ : ∃ N, Hid (N = max s.L (X + nx)) := ⟨_, Lib.hid rfl⟩
              have HLN := Lib.hid hln
              clear hln
              have HNE := HN
              go_wp2
              go_loopg [5] (N - s.L) (fun g b wl => ∃ (M : Nat) (A5 : Option Addr) (c5 : Nat), s.L ≤ M ∧ M ≤ N ∧ g = N - M ∧ b = .slice A5 M c5 ∧ Sep w wl (RL s.c M A5 c5 gt nt ht A7 c7 k outs (.cells gx 77 [.int .i64 1, .int .i64 (X : Int), .int .i64 mn, .slice Ax nx cx] :: .cells ga 84 [.int .i64 0, .slice none 0 0] :: outs.map Am.row)))
              case atStart => exact ⟨s.L, A5, c5, Nat.le_refl _, by have := HN.out; omega, rfl, rfl, HS3.out⟩
              case round =>
                clear HS3 d0 d1 d2 d3 g0 g1 q0 q1 w3
                obtain ⟨M, A5, c5, hM1, hM2, rfl, rfl, hs⟩ := hrel
                have HS3 := Lib.hid hs
                clear hs
                have hN := HN.out
                have hL := HO.out.len
                have d0 := HS3.out.cell 3 rfl (k := 0) rfl
                have d1 := HS3.out.cell 3 rfl (k := 1) rfl
                have d2 := HS3.out.cell 3 rfl (k := 2) rfl
                have d3 := HS3.out.cell 3 rfl (k := 3) rfl
                by_cases hMN : M < N
                · have i0' : (M : Int) < (X : Int) + (nx : Int) := by omega
                  have hz : s.c M = 0 := HO.out.zero M hM1
                  have HZ := Lib.hid hz
                  clear hz
                  have hnew := Lib.hid (Rd.of_own (own_new wr 5 #[.int .u8 0] 1 1 rfl (by simp [maxLen]) (Nat.le_refl _)))
                  go_wp2_with (at_builtin; go_loud (refine wpList_append_sepF (HS3.out.alloc _) 0 rfl (.tmp 100) (.tmp 101) 75 rfl 5 i0 (.int .u8 0) 1 1 Try.underlying75 hib hz0 hz1 hz2 rfl (by omega) _ M _ rfl rfl _ _ 1 1 _ rfl hnew.out (by simp [Value.oneCell']) (by omega) (by simp only [maxLen]; omega) (by omega) ?_; intro A9 c9 w9 hc9 hs9 H9'; have H9 := Lib.hid H9'; clear H9'))
                  go_roundg (N - (M + 1))
                  case measure => omega
                  case rel =>
                    refine ⟨M + 1, A9, c9, by omega, by omega, rfl, rfl, ?_⟩
                    unfold RL
                    rw [row_snoc, HZ.out, List.flatMap_append]
                    exact H9.out
                · obtain rfl : M = N := by omega
                  have i0' : ¬ (M : Int) < (X : Int) + (nx : Int) := by omega
                  obtain ⟨b8, off8, e8, hb8, hc8⟩ := HQ.out.1.2 (show 0 < nx by omega)
                  simp only at e8
                  subst e8
                  obtain ⟨g5, rfl⟩ := HS3.out.fAddr 0 rfl (by omega)
                  have HX := Lib.hid (show X + nx ≤ M by omega)
                  have HX2 := Lib.hid (show M ≤ 4096 by omega)
                  have HC8 := Lib.hid hc8
                  clear hc8 hN hL HN
                  go_wp2
                  clear i0' d0 d1 d2 d3
                  go_loopg [106] nx (fun g i wl => ∃ (j : Nat) (nt : Nat) (ht : Int → Option Unit), j ≤ nx ∧ g = nx - j ∧ i = .int .i64 j ∧ Hid (HTh ht (pW s.P X j)) ∧ Sep w wl (RL (cW s.c X ds j) M (some ⟨g5, 0, none⟩) c5 gt nt ht A7 c7 k outs (.cells gx 77 [.int .i64 1, .int .i64 (X : Int), .int .i64 mn, .slice (some ⟨b8, off8, none⟩) nx cx] :: .cells ga 84 [.int .i64 0, .slice none 0 0] :: outs.map Am.row)))
                  case atStart => exact ⟨0, nt, ht, Nat.zero_le _, rfl, rfl, HT, HS3.out⟩
                  case round =>
                    clear HS3 HT
                    obtain ⟨j, nt, ht, hj, rfl, rfl, HT, hs⟩ := hrel
                    have HS3 := Lib.hid hs
                    clear hs
                    have d1 := HS3.out.cell 3 rfl (k := 1) rfl
                    by_cases hjn : j < nx
                    · have hdj : ds[j]? = some (ds.getD j 0) := by
                        rw [List.getD_eq_getElem?_getD, List.getElem?_eq_getElem (by rw [HLN.out]; exact hjn)]
                        rfl
                      obtain ⟨bv, hbv⟩ : ∃ bv, bv = ds.getD j 0 := ⟨_, rfl⟩
                      rw [← hbv] at hdj
                      have HBV := Lib.hid hbv
                      have e0 : wr.cell? ⟨b8, off8 + j, none⟩ = some (.int .u8 (bv : Int)) := (HS3.out.below.cell hb8).trans (HC8.out j _ (by rw [bcell_at, hdj]; rfl))
                      clear hdj hbv
                      have hx := HX.out
                      have hx2 := HX2.out
                      obtain ⟨Y, HY⟩ : ∃ Y, Hid (Y = X + j) := ⟨_, Lib.hid rfl⟩
                      have y0 : (X : Int) + (j : Int) = (Y : Int) := by have := HY.out; omega
                      have y1 : (Y : Int) < (M : Int) := by have := HY.out; omega
                      have y2 : (0 : Int) ≤ (Y : Int) := by omega
                      have y3 : Int.tdiv (Y : Int) 16 = ((Y / 16 : Nat) : Int) := quo16 Y
                      have y4 : (Y : Int) / 16 = ((Y / 16 : Nat) : Int) := rfl
                      have q0 := HS3.out.fFroz 0 rfl (k := Y) (by omega)
                      have HS4 := Lib.hid (HS3.out.fSet 0 rfl (k := Y) (by omega) (by omega) (.int .u8 (bv : Int)))
                      have HLE := Lib.hid (mapT_le HS3.out 1 rfl HT.out (fun p hp => by
                        rcases (pW_at _ _).1 hp with h | ⟨i, hi, rfl⟩
                        · have h1 := HO.out.page p h
                          have h2 := HO.out.len
                          omega
                        · omega))
                      have p0 := HS3.out.fCell 0 rfl (show ((row (cW s.c X ds j) M).flatMap bcell)[Y]? = some (.int .u8 (cW s.c X ds j Y : Int)) by rw [bcell_at, row_at _ (by omega)]; rfl)
                      go_upto_region 21 with (fail)
                      clear HS3 d1 e0 q0 p0
                      generalize wr.setCell ⟨g5, Y, none⟩ (.int .u8 (bv : Int)) = w4 at HS4 ⊢
                      have d1 := HS4.out.cell 3 rfl (k := 1) rfl
                      obtain ⟨w5, s1, _, HS5'⟩ := HS4.out.store 1 rfl kintL (x := ((Y / 16 : Nat) : Int)) (wf_nat (k := Y / 16) (by omega)) Try.underlying68 (by have := HLE.out; simp only [maxLen]; omega) ()
                      have HS5 := Lib.hid HS5'
                      unfold uT at s1
                      clear HS5'
                      obtain ⟨K, HK⟩ : ∃ K, Hid (K = Y / 16) := ⟨_, Lib.hid rfl⟩
                      rw [← HK.out] at y3 y4 HS5 s1
                      have y5 : K < 4096 := by have := HK.out; omega
                      go_upto_region 22 with (fail)
                      clear HS4 d1 s1 y3 y4
                      go_wp2
                      go_roundg (nx - (j + 1))
                      case measure => omega
                      case rel =>
                        refine ⟨j + 1, if (ht ((K : Nat) : Int)).isSome then nt else nt + 1, mup ht ((K : Nat) : Int) (), by omega, rfl, by go_num, Lib.hid ?_, ?_⟩
                        · have h := HT.out.add K
                          show HTh _ (padd (pW s.P X j) ((X + j) / 16))
                          rw [← HY.out, ← HK.out]
                          exact h
                        · have h := HS5.out
                          unfold RL
                          have e1 : cW s.c X ds (j + 1) = upd (cW s.c X ds j) Y bv := by rw [HY.out, HBV.out]; rfl
                          rw [e1, ← row_set, ← bcell_set]
                          exact h
                    · obtain rfl : j = nx := by omega
                      have hw1 : (s.write X ds).c = cW s.c X ds j := by show cW s.c X ds ds.length = _; rw [HLN.out]
                      have hw2 : (s.write X ds).L = M := by
                        show (if ds = [] then s.L else max s.L (X + ds.length)) = M
                        rw [if_neg (fun e => by have := HLN.out; rw [e] at this; simp at this; omega), HLN.out]
                        have := HNE.out
                        omega
                      have HT2 : Hid (HTh ht (s.write X ds).P) := Lib.hid (by have h := HT.out; show HTh ht (pW s.P X ds.length); rw [HLN.out]; exact h)
                      have HS4 := HS3
                      rw [← hw1, ← hw2] at HS4
                      have hw2' := Lib.hid hw2
                      clear hw1 hw2 HT HS3 d1
                      go_wp2
                      have HS6 := Lib.hid (fr_fin (x := ⟨0, none, 0, 0, []⟩) HS4.out (by rfl))
                      have f0 := HS4.out.cell 4 rfl (k := 0) rfl
                      have f1 := HS4.out.cell 4 rfl (k := 1) rfl
                      obtain rfl := hw2'.out
                      go_meet
                      exact ⟨(some ⟨g5, 0, none⟩), c5, nt, ht, ⟨0, none, 0, 0, []⟩, rfl, rfl, HT2, f0, f1, HS6.out⟩
        | read X m h1 h2 h3 =>
          as_aux_lemma =>
            simp only at h1 h2 h3
            subst h1 h2 h3
            have hX := wf_le HQ.out.2.2.2.2.2.1
            have hM := wf_le HQ.out.2.2.2.2.2.2
            have hL := HO.out.len
            obtain ⟨mi, HMI, hmi⟩ := min2_ex Try.prog (X : Int) (m : Int)
            have hmi0 : ¬ mi < 0 := by have := HMI.out; split at this <;> omega
            by_cases hXL : X < s.L
            · have i1 : (X : Int) < (s.L : Int) := by omega
              obtain ⟨T, HTT⟩ : ∃ T, Hid (T = min m (s.L - X)) := ⟨_, Lib.hid rfl⟩
              go_wp2
              clear d0 d1 d2 d3 g0 g1 q0 q1 hmi hmi0
              obtain ⟨g5, rfl⟩ := HS3.out.fAddr 0 rfl (by omega)
              go_loopg [13] T (fun g i wl => ∃ (j : Nat) (A1 : Option Addr) (c1 : Nat), j ≤ T ∧ g = T - j ∧ i = .int .i64 j ∧ Sep w wl (RL s.c s.L (some ⟨g5, 0, none⟩) c5 gt nt ht A7 c7 k outs (.cells gx 77 [.int .i64 2, .int .i64 (X : Int), .int .i64 (m : Int), .slice Ax nx cx] :: .cells ga 84 [.int .i64 0, .slice A1 j c1] :: .row 5 1 (.slice A1 j c1) j ((rd s.c X j).flatMap bcell) :: outs.map Am.row)))
              case atStart => exact ⟨0, none, 0, Nat.zero_le _, rfl, rfl, fr_row HS3.out⟩
              case round =>
                clear HS3
                obtain ⟨j, A1, c1, hj, rfl, rfl, hs⟩ := hrel
                have HS3 := Lib.hid hs
                clear hs
                have hT := HTT.out
                obtain ⟨Y, HY⟩ : ∃ Y, Hid (Y = X + j) := ⟨_, Lib.hid rfl⟩
                have y0 : (X : Int) + (j : Int) = (Y : Int) := by have := HY.out; omega
                have d1 := HS3.out.cell 3 rfl (k := 1) rfl
                have d2 := HS3.out.cell 3 rfl (k := 2) rfl
                by_cases hjT : j < T
                · have j1 : (j : Int) < (m : Int) := by omega
                  have y1 : (Y : Int) < (s.L : Int) := by have := HY.out; omega
                  have y2 : (0 : Int) ≤ (Y : Int) := by omega
                  have HCELL : Hid (((row s.c s.L).flatMap bcell)[Y]? = some (.int .u8 (s.c Y : Int))) := Lib.hid (by rw [bcell_at, row_at s.c (by omega)]; rfl)
                  have hwr : IntKind.i64.wrap (Y : Int) = (Y : Int) := by
                    simp [IntKind.wrap, IntKind.bits, IntKind.signed]
                    omega
                  clear hT
                  go_upto_region 27 with (fail)
                  clear d1 d2
                  have f0 := HS3.out.cell 4 rfl (k := 1) rfl
                  have f0a := ((HS3.out.alloc (.cells #[.int .u8 (s.c Y : Int)] 5)).drew).cell 4 rfl (k := 1) rfl
                  have f2 : wr.cell? ⟨g5, Y, none⟩ = some (.int .u8 (s.c Y : Int)) := HS3.out.fCell 0 rfl HCELL.out
                  have d1 := HS3.out.cell 3 rfl (k := 1) rfl
                  have hnew := Lib.hid (Rd.of_own (own_new wr 5 #[.int .u8 (s.c Y : Int)] 1 1 rfl (by simp [maxLen]) (Nat.le_refl _)))
                  go_region_law (refine step_append_sep (HS3.out.alloc _).drew 5 rfl (.tmp 152) (.tmp 160) 75 rfl 5 i0 (.int .u8 0) 1 1 Try.underlying75 hib hz0 hz1 hz2 rfl (by omega) _ j _ (by simp [Act.eval]) rfl _ _ 1 1 _ (by simp [Act.eval]) hnew.out.drew (by simp [Value.oneCell']) (by simp only [maxLen]; omega) (by omega) ?_; intro A' c' w7 hc7 hs7 H7; have e0 := H7.cell 4 rfl (k := 1) rfl; have u0 := H7.froz 4 rfl (k := 1); have H8 := Lib.hid (H7.set 4 rfl (k := 1) (.slice A' (j + 1) c')); clear H7)
                  all_goals
                    go_wp2
                    go_roundg (T - (j + 1))
                    case measure => omega
                    case rel =>
                      refine ⟨j + 1, A', c', by omega, rfl, by go_num, ?_⟩
                      rw [rd_snoc, List.flatMap_append, ← HY.out]
                      exact H8.out
                · obtain rfl : j = T := by omega
                  have hfin : Hid (rd s.c X j = s.read X m) := Lib.hid (by rw [hT]; rfl)
                  by_cases hjm : j < m
                  · have j1 : (j : Int) < (m : Int) := by omega
                    have y1 : ¬ (Y : Int) < (s.L : Int) := by have := HY.out; omega
                    have y2 : Y ≤ 4096 := by have := HY.out; omega
                    clear hT
                    go_wp2
                    rw [hfin.out] at HS3
                    have HS6 := Lib.hid (fr_fin2 (x := ⟨0, A1, j, c1, s.read X m⟩) HS3.out)
                    have f0 := HS3.out.cell 4 rfl (k := 0) rfl
                    have f1 := HS3.out.cell 4 rfl (k := 1) rfl
                    go_meet
                    exact ⟨(some ⟨g5, 0, none⟩), c5, nt, ht, ⟨0, A1, j, c1, (s.read X m)⟩, rfl, rfl, HT, f0, f1, HS6.out⟩
                  · have j1 : ¬ (j : Int) < (m : Int) := by omega
                    clear hT
                    go_wp2
                    rw [hfin.out] at HS3
                    have HS6 := Lib.hid (fr_fin2 (x := ⟨0, A1, j, c1, s.read X m⟩) HS3.out)
                    have f0 := HS3.out.cell 4 rfl (k := 0) rfl
                    have f1 := HS3.out.cell 4 rfl (k := 1) rfl
                    go_meet
                    exact ⟨(some ⟨g5, 0, none⟩), c5, nt, ht, ⟨0, A1, j, c1, (s.read X m)⟩, rfl, rfl, HT, f0, f1, HS6.out⟩
            · have i1 : ¬ (X : Int) < (s.L : Int) := by omega
              have e0 : s.read X m = [] := by
                have e1 : min m (s.L - X) = 0 := by omega
                show (List.range (min m (s.L - X))).map _ = []
                rw [e1]
                rfl
              have E0 := Lib.hid e0
              clear e0
              go_wp2
              have HS6 := Lib.hid (fr_fin (x := ⟨0, none, 0, 0, s.read X m⟩) HS3.out (by unfold Am.row; rw [E0.out]; rfl))
              have f0 := HS3.out.cell 4 rfl (k := 0) rfl
              have f1 := HS3.out.cell 4 rfl (k := 1) rfl
              go_meet
              exact ⟨A5, c5, nt, ht, ⟨0, none, 0, 0, (s.read X m)⟩, rfl, rfl, HT, f0, f1, HS6.out⟩
        | cut m h1 h2 h3 =>
          as_aux_lemma =>
            simp only at h1 h2 h3
            subst h1 h2
            obtain ⟨N, HN⟩ : ∃ N, Hid (N = max s.L m) := ⟨_, Lib.hid rfl⟩
            have i2 : ¬ (m : Int) < 0 := by omega
            have i3 : ¬ (m : Int) > 4096 := by omega
            go_wp2
            clear i2 i3
            go_loopg [5] (N - s.L) (fun g b wl => ∃ (M : Nat) (A5 : Option Addr) (c5 : Nat), s.L ≤ M ∧ M ≤ N ∧ g = N - M ∧ b = .slice A5 M c5 ∧ Sep w wl (RL s.c M A5 c5 gt nt ht A7 c7 k outs (.cells gx 77 [.int .i64 3, .int .i64 at_, .int .i64 (m : Int), .slice Ax nx cx] :: .cells ga 84 [.int .i64 0, .slice none 0 0] :: outs.map Am.row)))
            case atStart => exact ⟨s.L, A5, c5, Nat.le_refl _, by have := HN.out; omega, rfl, rfl, HS3.out⟩
            case round =>
              clear HS3 d0 d1 d2 d3 g0 g1 q0 q1 w3
              obtain ⟨M, A5, c5, hM1, hM2, rfl, rfl, hs⟩ := hrel
              have HS3 := Lib.hid hs
              clear hs
              have hN := HN.out
              have hL := HO.out.len
              have d0 := HS3.out.cell 3 rfl (k := 0) rfl
              have d1 := HS3.out.cell 3 rfl (k := 1) rfl
              have d2 := HS3.out.cell 3 rfl (k := 2) rfl
              have d3 := HS3.out.cell 3 rfl (k := 3) rfl
              by_cases hMN : M < N
              · have i0' : (M : Int) < (m : Int) := by omega
                have hz : s.c M = 0 := HO.out.zero M hM1
                have HZ := Lib.hid hz
                clear hz
                have hnew := Lib.hid (Rd.of_own (own_new wr 5 #[.int .u8 0] 1 1 rfl (by simp [maxLen]) (Nat.le_refl _)))
                go_wp2_with (at_builtin; go_loud (refine wpList_append_sepF (HS3.out.alloc _) 0 rfl (.tmp 172) (.tmp 173) 75 rfl 5 i0 (.int .u8 0) 1 1 Try.underlying75 hib hz0 hz1 hz2 rfl (by omega) _ M _ rfl rfl _ _ 1 1 _ rfl hnew.out (by simp [Value.oneCell']) (by omega) (by simp only [maxLen]; omega) (by omega) ?_; intro A9 c9 w9 hc9 hs9 H9'; have H9 := Lib.hid H9'; clear H9'))
                go_roundg (N - (M + 1))
                case measure => omega
                case rel =>
                  refine ⟨M + 1, A9, c9, by omega, by omega, rfl, rfl, ?_⟩
                  unfold RL
                  rw [row_snoc, HZ.out, List.flatMap_append]
                  exact H9.out
              · obtain rfl : M = N := by omega
                have i0' : ¬ (M : Int) < (m : Int) := by omega
                have hmM : m ≤ M := by omega
                clear hN hL HN
                obtain ⟨A5', c5', e5, hc5⟩ := (HS3.out.fHas 0 rfl).slice
                cases e5
                have HS4 : Hid (Sep w wr (RL (cC s.c m) m A5 m gt nt ht A7 c7 k outs (.cells gx 77 [.int .i64 3, .int .i64 at_, .int .i64 (m : Int), .slice Ax nx cx] :: .cells ga 84 [.int .i64 0, .slice none 0 0] :: outs.map Am.row))) := Lib.hid (by
                  have h := HS3.out.fCut 0 rfl hmM
                  rw [flat_take bcell_len, row_take _ hmM] at h
                  exact h)
                have hsl := hm_run (P := Try.prog) Try.underlying75 (size_of_info hib hz1) A5 M c5 m (by omega)
                have HKE := Lib.hid (mapT_keys2 HT.out (fun p hp => by
                  have h1 := HO.out.page p hp
                  have h2 := HO.out.len
                  show p < 256
                  omega))
                clear HS3
                obtain ⟨es0, clock, M0, H1⟩ := HS4.out.mapOpen 1 rfl
                obtain ⟨hrun, H2, todo0, R0, htl, hmem⟩ := H1.rangeStart 1 rfl M0 kintL Try.underlying68
                have HM := Lib.hid M0
                have HR0 := Lib.hid R0
                obtain ⟨RR, hRR⟩ : ∃ RR, RR = (.row 84 2 (.slice A7 k c7) k (outs.flatMap Am.cells) :: .cells gx 77 [.int .i64 3, .int .i64 at_, .int .i64 (m : Int), .slice Ax nx cx] :: .cells ga 84 [.int .i64 0, .slice none 0 0] :: outs.map Am.row : List It) := ⟨_, rfl⟩
                have HRR := Lib.hid hRR
                have HS0 : Hid (Sep w (wr.alloc (.mapIter (some gt) clock #[] clock)) (.rowF 5 1 (.slice A5 m m) m ((row (cC s.c m) m).flatMap bcell) :: .obj gt (.map es0 clock) :: (RR ++ [.obj wr.heap.size (.mapIter (some gt) clock #[] clock)]))) := Lib.hid (by rw [hRR]; exact H2)
                have HI0 : Hid (∀ x, ht x = if x ∈ todo0 then ht x else hcutT ht m x) := Lib.hid (fun x => by
                  by_cases hx : x ∈ todo0
                  · rw [if_pos hx]
                  · rw [if_neg hx]
                    have : ht x = none := by
                      cases hh : ht x with
                      | none => rfl
                      | some a => exact absurd ((hmem x).2 (by rw [hh]; rfl)) hx
                    unfold hcutT
                    rw [this]
                    split <;> rfl)
                have htl0 : todo0.length = todo0.length := rfl
                clear M0 R0 H1 H2 hmem hRR htl
                go_upto_region 33 with (fail)
                clear hrun hsl d0 d1 d2 d3 i0'
                generalize wr.alloc (.mapIter (some gt) clock #[] clock) = wo2 at HS0 ⊢
                generalize wr.heap.size = r1 at HS0 ⊢
                go_wp2
                go_loopg [] todo0.length (fun g wl => ∃ (todo : List Int) (seen : Array Nat) (c0 nn : Nat) (es' : Array MapEntry) (hq : Int → Option Unit), g = todo.length ∧ Hid (Rg (Value.int .i64) es' clock clock seen c0 todo) ∧ Hid (MIs Try.prog 3 (Value.int .i64) uT es' clock nn hq) ∧ Hid (∀ x, hq x = if x ∈ todo then ht x else hcutT ht m x) ∧ Hid (todo.Nodup) ∧
                    Sep w wl (.rowF 5 1 (.slice A5 m m) m ((row (cC s.c m) m).flatMap bcell) :: .obj gt (.map es' clock) :: (RR ++ [.obj r1 (.mapIter (some gt) clock seen c0)])))
                case atStart => exact ⟨todo0, #[], clock, nt, es0, ht, rfl, HR0, HM, HI0, Lib.hid HR0.out.nd, HS0.out⟩
                case round =>
                  clear HS0 HI0 HR0 HM wo2 htl0 HS4
                  obtain ⟨todo, seen, c0, nn, es', hq, rfl, HRG, HM, HI, HND, hs⟩ := hrel
                  have HS := Lib.hid hs
                  clear hs
                  rcases HS.out.rangeNext 1 (RR.length + 2) (by omega) rfl (it_last RR) HM.out kintL HRG.out 0 with ⟨rfl, hrun⟩ | ⟨x, a, w2, seen', hx, hxa, hrun, hsz, H2, HRG2, hen⟩
                  · have HF : Hid (Sep w wr (RL (s.cut m).c (s.cut m).L A5 m gt nn (hcutT ht m) A7 c7 k outs (.cells gx 77 [.int .i64 3, .int .i64 at_, .int .i64 (m : Int), .slice Ax nx cx] :: .cells ga 84 [.int .i64 0, .slice none 0 0] :: outs.map Am.row))) := Lib.hid (by
                      have e : hq = hcutT ht m := funext fun x => by have := HI.out x; simpa using this
                      have M2 := HM.out
                      rw [e] at M2
                      have h1 := HS.out.mapShut 1 rfl M2
                      have h2 := Sep.sub h1 (List.Sublist.cons_cons _ (List.Sublist.cons_cons _ (List.sublist_append_left _ _)))
                      rw [HRR.out] at h2
                      exact h2)
                    have HT2 : Hid (HTh (hcutT ht m) (s.cut m).P) := Lib.hid (HT.out.cut m)
                    clear HS HI HRG HM HRR HT
                    go_wp2
                    have HS6 := Lib.hid (fr_fin (x := ⟨0, none, 0, 0, []⟩) HF.out (by rfl))
                    have f0 := HF.out.cell 4 rfl (k := 0) rfl
                    have f1 := HF.out.cell 4 rfl (k := 1) rfl
                    go_meet
                    exact ⟨A5, m, nn, (hcutT ht m), ⟨0, none, 0, 0, []⟩, rfl, rfl, HT2, f0, f1, HS6.out⟩
                  · rw [it_set] at H2
                    have HS2 := Lib.hid H2
                    have hhx : ht x = some a := by
                      have := HI.out x
                      rw [if_pos hx] at this
                      rw [← this]
                      exact hxa
                    obtain ⟨x0, x1⟩ := HKE.out x (by rw [hhx]; rfl)
                    have hd2 : w2.cell? ⟨gx, 2, none⟩ = some (.int .i64 (m : Int)) := (show Sep w w2 (_ :: _ :: _ :: .cells gx 77 [.int .i64 3, .int .i64 at_, .int .i64 (m : Int), .slice Ax nx cx] :: _) by have h := HS2.out; rw [HRR.out] at h; exact h).cell 3 rfl (k := 2) rfl
                    have HRG3 := Lib.hid HRG2
                    have HL : Hid ((todo.erase x).length < todo.length) := Lib.hid (by
                      have h1 := List.length_erase_of_mem hx
                      have h2 := List.length_pos_of_mem hx
                      omega)
                    have HX := Lib.hid hx
                    have hwf : (Lit.int .i64 x).wf = true := by
                      simp [Lit.wf, IntKind.min, IntKind.max, IntKind.signed, IntKind.bits]
                      omega
                    unfold uT at hrun hen
                    clear H2 HRG2 hx hxa hsz
                    by_cases hge : 16 * x ≥ (m : Int)
                    · obtain ⟨es2, w3', hdel, hsz3, H3, M3, R3⟩ := HS2.out.rangeDrop 1 rfl HM.out kintL Try.underlying68 HRG3.out hwf
                      have HS3 : Hid (Sep w w3' (.rowF 5 1 (.slice A5 m m) m ((row (cC s.c m) m).flatMap bcell) :: .obj gt (.map es2 clock) :: (RR ++ [.obj r1 (.mapIter (some gt) clock seen' clock)]))) := Lib.hid H3
                      have HM3 := Lib.hid M3
                      have HR3 := Lib.hid R3
                      have HI3 : Hid (∀ y, mdel hq x y = if y ∈ todo.erase x then ht y else hcutT ht m y) := Lib.hid (fun y => by
                        have hme := HND.out.mem_erase_iff (a := y) (b := x)
                        by_cases hy : y = x
                        · subst hy
                          rw [mdel_same, if_neg (fun e => (hme.1 e).1 rfl)]
                          unfold hcutT
                          rw [if_pos (by omega)]
                        · rw [mdel_other _ hy, HI.out y]
                          by_cases hm : y ∈ todo
                          · rw [if_pos hm, if_pos (hme.2 ⟨hy, hm⟩)]
                          · rw [if_neg hm, if_neg (fun e => hm (hme.1 e).2)])
                      have HE : Hid ((todo.erase x).erase x = todo.erase x) := Lib.hid (List.erase_of_not_mem (fun hm => ((HND.out.mem_erase_iff).1 hm).1 rfl))
                      rw [HE.out] at HR3
                      clear H3 M3 R3 hsz3 HS HS2
                      go_wp2
                      go_roundg (todo.erase x).length
                      case measure => exact HL.out
                      case rel => exact ⟨todo.erase x, seen', clock, _, es2, mdel hq x, rfl, HR3, HM3, HI3, Lib.hid (HND.out.erase _), HS3.out⟩
                    · have HI3 : Hid (∀ y, hq y = if y ∈ todo.erase x then ht y else hcutT ht m y) := Lib.hid (fun y => by
                        have hme := HND.out.mem_erase_iff (a := y) (b := x)
                        rw [HI.out y]
                        by_cases hy : y = x
                        · subst hy
                          rw [if_pos HX.out, if_neg (fun e => (hme.1 e).1 rfl)]
                          unfold hcutT
                          rw [if_neg (by omega)]
                        · by_cases hm : y ∈ todo
                          · rw [if_pos hm, if_pos (hme.2 ⟨hy, hm⟩)]
                          · rw [if_neg hm, if_neg (fun e => hm (hme.1 e).2)])
                      clear HS
                      go_wp2
                      go_roundg (todo.erase x).length
                      case measure => exact HL.out
                      case rel => exact ⟨todo.erase x, seen', clock, nn, es', hq, rfl, HRG3, HM, HI3, Lib.hid (HND.out.erase _), HS2.out⟩
      case rest =>
        obtain ⟨A5, c5, nt, ht, ⟨xe, xA, xn, xc, xb⟩, rfl, rfl, HT6, f0, f1, hs6⟩ := hcut
        have HS6 := Lib.hid hs6
        clear hs6 HS3 HT HO
        have hnew := Lib.hid (Rd.of_own (own_new wc 84 #[.int .i64 xe, .slice xA xn xc] 2 1 rfl (by simp [maxLen]) (Nat.le_refl _)))
        go_wp2_with (at_builtin; refine wpList_append_sep (HS6.out.alloc _) 2 rfl (.tmp 194) (.tmp 196) 33 rfl 84 ti (.agg #[.int .i64 0, .slice none 0 0]) 2 32 Try.underlying33 hti t0 t1 t2 rfl (by omega) _ k _ rfl rfl _ _ 1 1 _ rfl hnew.out (by simp [Value.oneCell']) (by simp only [maxLen]; omega) (by omega) ?_; intro A9 c9 w9 hc9 hs9 H9'; have H9 := Lib.hid H9'; clear H9')
        go_roundg (n - (k + 1))
        case measure => omega
        case rel =>
          refine ⟨k + 1, s1, nt, ht, A5, c5, outs ++ [⟨xe, xA, xn, xc, xb⟩], A9, c9, by omega, rfl, rfl, rfl, by go_num, Lib.hid (by rw [List.length_append, HOL.out]; rfl), HT6, HO1, Lib.hid ⟨rest1, HF2.out.1, ?_⟩, ?_⟩
          · rw [HF2.out.2, List.map_append, List.append_assoc]
            rfl
          · have h := H9.out
            unfold RL
            rw [List.flatMap_append]
            exact h
    · have HS6 := HS
      obtain ⟨rest, h1, h2⟩ := HF.out
      rw [List.drop_of_length_le (by rw [HR.out.len]; omega)] at h1
      cases h1
      rw [List.append_nil] at h2
      have HES := Lib.hid h2
      have hln := HS.out.mapLen 1 rfl Try.underlying68
      clear h2 HF HP
      go_wp2
      refine bodyPost_ret (v := .tuple #[.slice A7 k c7, .int .i64 (sf.L : Int), .int .i64 (nt : Int)]) (by simp [results, Try.results11]) rfl ?_
      refine ⟨A7, k, c7, nt, rfl, fun bl hk => mapT_count HS.out 1 rfl HT.out hk, HS.out.below, outs, ?_, HES.out.symm⟩
      refine AL_of (i := 2) (c := c7) (fun j => j + 3) HS.out rfl (fun j x hj => ?_)
      show (outs.map Am.row)[j]? = _
      rw [List.getElem?_map, hj]
      rfl
end Fl
end Go.Proofs.Ytfljbiobiobamaa
