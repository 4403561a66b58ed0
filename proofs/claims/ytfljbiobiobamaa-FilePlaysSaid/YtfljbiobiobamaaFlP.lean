/-
  Walk of file.Play (DRAFT: the loop is not done). Conditions: none beyond each theorem's own premises.
-/
import Derived.Test.YtfljbiobiobamaaFlW7
import Derived.Test.YtfljbiobiobamaaFlA
import Derived.Shelf.Abstract
namespace Go.Proofs.Ytfljbiobiobamaa
open Go.RowKit
set_option linter.unusedVariables false
namespace Fl

/-- an operation in memory -/
structure Om where
  (kind at_ many : Int)
  A : Option Addr
  n : Nat
  c : Nat
  ds : List Nat
def Om.cells (x : Om) : List Value := [.int .i64 x.kind, .int .i64 x.at_, .int .i64 x.many, .slice x.A x.n x.c]
theorem Om.len : ∀ x : Om, x.cells.length = 4 := fun _ => rfl
def Om.o (x : Om) : O := ⟨x.kind, x.at_, x.many, x.ds⟩
def Om.ok (w : World) (x : Om) : Prop := Rd w w.heap.size 1 x.A x.n (x.ds.flatMap bcell) ∧ x.ds.length = x.n ∧ x.n ≤ 140737488355328 ∧ (∀ b ∈ x.ds, b < 256) ∧ (Lit.int .i64 x.kind).wf = true ∧ (Lit.int .i64 x.at_).wf = true ∧ (Lit.int .i64 x.many).wf = true
/-- the function of kind k -/
def fV (F gv : Nat) : Value := .func (.func F) #[] #[.pointer (some ⟨gv, 0, none⟩)]
def tH (gv : Nat) : Int → Option Value := fun x => if x = 1 then some (fV 24 gv) else if x = 2 then some (fV 26 gv) else if x = 3 then some (fV 28 gv) else none
def tI (gt gv : Nat) : It := .map Try.prog 3 (Value.int .i64) (fun v : Value => v) gt 3 (tH gv)
theorem tH_eq (gv : Nat) : mup (mup (mup mno 1 (fV 24 gv)) 2 (fV 26 gv)) 3 (fV 28 gv) = tH gv := by
  funext x
  unfold mup tH mno
  by_cases h3 : x = 3
  · subst h3; simp
  · by_cases h2 : x = 2
    · subst h2; simp
    · by_cases h1 : x = 1
      · subst h1; simp
      · simp [h1, h2, h3]
/-- the table, made -/
theorem table_made {w0 w : World} {L : List It} (H : Sep w0 w L) (gv : Nat) :
    ∃ w1 w2 w3 : World, (Instr.mapUpdate 81 (.map (some w.heap.size)) (.int .i64 1) (fV 24 gv)).run Try.prog (w.alloc (.map #[] 0)) = .ok () w1 ∧
      (Instr.mapUpdate 81 (.map (some w.heap.size)) (.int .i64 2) (fV 26 gv)).run Try.prog w1 = .ok () w2 ∧
      (Instr.mapUpdate 81 (.map (some w.heap.size)) (.int .i64 3) (fV 28 gv)).run Try.prog w2 = .ok () w3 ∧ Sep w0 w3 (L ++ [tI w.heap.size gv]) := by
  have H1 := H.newMap Try.prog 3 (Value.int .i64) (fun v : Value => v)
  obtain ⟨w1, r1, _, K1⟩ := H1.store L.length (at_last _ _) kintL (x := 1) (wf_nat (k := 1) (by omega)) Try.underlying81 (by simp [maxLen]) (fV 24 gv)
  rw [set_last] at K1
  obtain ⟨w2, r2, _, K2⟩ := K1.store L.length (at_last _ _) kintL (x := 2) (wf_nat (k := 2) (by omega)) Try.underlying81 (by simp [maxLen, mno]) (fV 26 gv)
  rw [set_last] at K2
  obtain ⟨w3, r3, _, K3⟩ := K2.store L.length (at_last _ _) kintL (x := 3) (wf_nat (k := 3) (by omega)) Try.underlying81 (by simp [maxLen, mno, mup]) (fV 28 gv)
  rw [set_last, tH_eq] at K3
  refine ⟨w1, w2, w3, r1, r2, r3, ?_⟩
  simpa [mno, mup, tI] using K3
/-- the operations in memory -/
structure OL (w : World) (A : Option Addr) (n : Nat) (l : List Om) : Prop where
  rd : Rd w w.heap.size 4 A n (l.flatMap Om.cells)
  len : l.length = n
  ok : ∀ x ∈ l, x.ok w
/-- what both Plays hand back -/
def PRet (w0 : World) (es : List An) (sf : Sf) (A : Option Addr) (n : Nat) (w' : World) : Prop := Below w0.heap.size w0 w' ∧ ∃ outs : List Am, AL w' A n outs ∧ outs.map Am.an = es

theorem way_no {s s1 : Sf} {o : O} {a : An} (h : Way 5 2 s o a s1) (he : ¬ a.err = 0) : a = ⟨a.err, []⟩ ∧ s1 = s := by
  cases h with
  | kind h => exact ⟨rfl, rfl⟩
  | wbad h h' => exact ⟨rfl, rfl⟩
  | write x h h' h'' => exact absurd rfl he
  | rbad h h' => exact ⟨rfl, rfl⟩
  | read x m h h' h'' => exact absurd rfl he
  | cbad h h' => exact ⟨rfl, rfl⟩
  | cut n h h' h'' => exact absurd rfl he
theorem fl_at4 {gf gm L : Nat} {bl : List (Nat × Nat)} {c : Nat → Nat} {X Y Z : It} {R : List It} : (FL gf gm L bl c (X :: Y :: Z :: R))[bl.length + 4]? = some Z := by
  unfold FL
  rw [List.getElem?_cons_succ, List.getElem?_cons_succ, List.getElem?_append_right (by rw [List.length_map]; omega), List.length_map, show bl.length + 2 - bl.length = 2 by omega]
  rfl
theorem fl_set4 {gf gm L : Nat} {bl : List (Nat × Nat)} {c : Nat → Nat} {X Y Z Z' : It} {R : List It} : (FL gf gm L bl c (X :: Y :: Z :: R)).set (bl.length + 4) Z' = FL gf gm L bl c (X :: Y :: Z' :: R) := by
  unfold FL
  rw [List.set_cons_succ, List.set_cons_succ, List.set_append_right _ _ (by rw [List.length_map]; omega), List.length_map, show bl.length + 2 - bl.length = 2 by omega]
  rfl
theorem fl_at3 {gf gm L : Nat} {bl : List (Nat × Nat)} {c : Nat → Nat} {X Y : It} {R : List It} : (FL gf gm L bl c (X :: Y :: R))[bl.length + 3]? = some Y := by
  unfold FL
  rw [List.getElem?_cons_succ, List.getElem?_cons_succ, List.getElem?_append_right (by rw [List.length_map]; omega), List.length_map, show bl.length + 1 - bl.length = 1 by omega]
  rfl
theorem fl_end {gf gm L : Nat} {bl : List (Nat × Nat)} {c : Nat → Nat} {X Y Z A : It} {R : List It} : FL gf gm L bl c (X :: Y :: Z :: (R ++ [A])) = FL gf gm L bl c (X :: Y :: Z :: R) ++ [A] := by
  simp [FL]
theorem fl_end2 {gf gm L : Nat} {bl : List (Nat × Nat)} {c : Nat → Nat} {X Y Z A B : It} {R : List It} {w0 w : World} (h : Sep w0 w (FL gf gm L bl c (X :: Y :: Z :: (R ++ [A])) ++ [B])) : Sep w0 w (FL gf gm L bl c (X :: Y :: Z :: (R ++ [B])) ++ [A]) := by
  refine h.perm ?_
  rw [fl_end, fl_end, List.append_assoc, List.append_assoc]
  exact List.Perm.append_left _ (List.Perm.swap _ _ _)
theorem way_read {eK eR : Int} {s s1 : Sf} {o : O} {a : An} (h : Way eK eR s o a s1) (he : ¬ eK = 0) (he' : ¬ eR = 0) (h0 : a.err = 0) :
    (∃ X : Nat, o.kind = 1 ∧ o.at_ = X ∧ X + o.data.length ≤ 4096 ∧ a = ⟨0, []⟩ ∧ s1 = s.write X o.data) ∨ (∃ X m : Nat, o.kind = 2 ∧ o.at_ = X ∧ o.many = m ∧ a = ⟨0, s.read X m⟩ ∧ s1 = s) ∨ (∃ m : Nat, o.kind = 3 ∧ o.many = m ∧ m ≤ 4096 ∧ a = ⟨0, []⟩ ∧ s1 = s.cut m) := by
  cases h with
  | kind h => exact absurd h0 he
  | wbad h h' => exact absurd h0 he'
  | write x h h' h'' => exact .inl ⟨x, h, h', h'', rfl, rfl⟩
  | rbad h h' => exact absurd h0 he'
  | read x m h h' h'' => exact .inr (.inl ⟨x, m, h, h', h'', rfl, rfl⟩)
  | cbad h h' => exact absurd h0 he'
  | cut n h h' h'' => exact .inr (.inr ⟨n, h, h', h'', rfl, rfl⟩)
theorem wf_le {X : Nat} (h : (Lit.int .i64 (X : Int)).wf = true) : X ≤ 9223372036854775807 := by
  simp [Lit.wf, IntKind.min, IntKind.max, IntKind.signed, IntKind.bits] at h
  omega
theorem ans_info : (Try.prog.info? 84).map (fun i => (i.zero, i.size, i.bytes)) = some (some (.agg #[.int .i64 0, .slice none 0 0]), 2, 32) := by kernel_rfl

set_option maxRecDepth 100000 in
set_option maxHeartbeats 6400000 in
theorem play_any (A : Option Addr) (n c : Nat) (l : List Om) (es : List An) (sf : Sf) (w : World) (hr : OL w A n l) (hn : n * 48 ≤ 140737488355328) (hp : Plays 5 2 Sf.new (l.map Om.o) es sf) :
    Calls Try.prog 10 #[.slice A n c] w (fun e w' => ∃ (A1 : Option Addr) (n1 c1 : Nat) (bl : List (Nat × Nat)), e = .returned (.tuple #[.slice A1 n1 c1, .int .i64 (sf.L : Int), .int .i64 (bl.length : Int)]) ∧ PK bl sf.P ∧ PRet w es sf A1 n1 w') := by
  have hmm := @run_makeMap Try.prog
  have hmf : ∀ (fn : Fn) (first cap : Array Value) (w : World), (Instr.makeFunc fn first cap).run Try.prog w = .ok (.func fn first cap) w := fun _ _ _ _ => rfl
  obtain ⟨ti, hti, t0, t1, t2⟩ := info_parts ans_info
  have HR := Lib.hid hr
  have HP := Lib.hid hp
  clear hr hp
  have H1 := (Sep.nil_ w).newMap Try.prog 3 (Value.int .i64) pE
  have H2 := H1.new 74 [.map (some w.heap.size), .int .i64 0]
  have H3 := H2.new 71 [.pointer (some ⟨w.heap.size + 1, 0, none⟩)]
  have HS0 : Hid (Sep w (((w.alloc (.map #[] 0)).alloc (.cells #[.map (some w.heap.size), .int .i64 0] 74)).alloc (.cells #[.pointer (some ⟨w.heap.size + 1, 0, none⟩)] 71)) (FL (w.heap.size + 1) w.heap.size 0 [] Sf.new.c (vI (w.heap.size + 1 + 1) (w.heap.size + 1) :: []))) := Lib.hid (by
    have e1 : (w.alloc (.map #[] 0)).heap.size = w.heap.size + 1 := by simp
    have e2 : ((w.alloc (.map #[] 0)).alloc (.cells #[.map (some w.heap.size), .int .i64 0] 74)).heap.size = w.heap.size + 1 + 1 := by simp
    have h := H3.pick [1, 0, 2] (by decide) (by simp)
    have e3 : hB [] = mno := by funext x; rfl
    unfold FL mI vI fI
    rw [e3]
    simpa [pickL, e1, e2] using h)
  clear H1 H2 H3
  go_enter Try.func10, Try.ntmps10
  go_upto_region 2 with (fail)
  generalize ((w.alloc (.map #[] 0)).alloc (.cells #[.map (some w.heap.size), .int .i64 0] 74)).alloc (.cells #[.pointer (some ⟨w.heap.size + 1, 0, none⟩)] 71) = u0 at HS0 ⊢
  generalize w.heap.size + 1 + 1 = gv at HS0 ⊢
  generalize w.heap.size + 1 = gf at HS0 ⊢
  generalize w.heap.size = gm at HS0 ⊢
  obtain ⟨u1, u2, u3, s1, s2, s3, HT⟩ := table_made HS0.out gv
  unfold fV at s1 s2 s3
  have HS1 : Hid (Sep w u3 (FL gf gm 0 [] Sf.new.c (vI gv gf :: tI u0.heap.size gv :: [.row 84 2 (.slice none 0 0) 0 []]))) := Lib.hid (HT.nilRow 84 2 none)
  clear HT HS0
  go_upto_region 3 with (fail)
  clear s1 s2 s3 hmm hmf
  generalize u0.heap.size = gt at HS1 ⊢
  go_wp2
  go_loopg [7, 21] n (fun g v i wr => ∃ (k : Nat) (s : Sf) (bl : List (Nat × Nat)) (outs : List Am) (A7 : Option Addr) (c7 : Nat), k ≤ n ∧ g = n - k ∧ v = .slice A7 k c7 ∧ i = .int .i64 k ∧ Hid (outs.length = k) ∧ Hid (PK bl s.P) ∧ Hid s.Ok ∧ Hid (∃ rest, Plays 5 2 s ((l.drop k).map Om.o) rest sf ∧ es = outs.map Am.an ++ rest) ∧
    Sep w wr (FL gf gm s.L bl s.c (vI gv gf :: tI gt gv :: .row 84 2 (.slice A7 k c7) k (outs.flatMap Am.cells) :: outs.map Am.row)))
  case atStart => exact ⟨0, Sf.new, [], [], none, 0, Nat.zero_le _, rfl, rfl, rfl, Lib.hid rfl, Lib.hid PK.nil, Lib.hid Sf.new_ok, Lib.hid ⟨es, by rw [List.drop_zero]; exact HP.out, rfl⟩, HS1.out⟩
  case round =>
    clear HS1
    obtain ⟨k, s, bl, outs, A7, c7, hk, rfl, rfl, rfl, HOL, HK, HO, HF, hs⟩ := hrel
    have HS := Lib.hid hs
    clear hs
    by_cases hlt : k < n
    · obtain ⟨b, off, rfl, hb, hc⟩ := HR.out.rd.at_ Om.len (by omega)
      obtain ⟨x, hx⟩ : ∃ x, l[k]? = some x := ⟨_, List.getElem?_eq_getElem (by rw [HR.out.len]; exact hlt)⟩
      have hB := HS.out.below
      have c0 : wr.cell? ⟨b, off + k * 4, none⟩ = some (.int .i64 x.kind) := (hB.cell hb).trans (hc k 0 x _ hx rfl)
      have c1 : wr.cell? ⟨b, off + k * 4 + 1, none⟩ = some (.int .i64 x.at_) := (hB.cell hb).trans (hc k 1 x _ hx rfl)
      have c2 : wr.cell? ⟨b, off + k * 4 + 2, none⟩ = some (.int .i64 x.many) := (hB.cell hb).trans (hc k 2 x _ hx rfl)
      have c3 : wr.cell? ⟨b, off + k * 4 + 3, none⟩ = some (.slice x.A x.n x.c) := (hB.cell hb).trans (hc k 3 x _ hx rfl)
      have HQ := Lib.hid (HR.out.ok x (List.mem_of_getElem? hx))
      have hdr : (l.drop k).map Om.o = x.o :: (l.drop (k + 1)).map Om.o := by
        obtain ⟨hl, e⟩ := List.getElem?_eq_some_iff.1 hx
        rw [List.drop_eq_getElem_cons hl, e, List.map_cons]
      obtain ⟨a, s1, rest1, HWAY, HF2⟩ : ∃ (a : An) (s1 : Sf) (rest1 : List An), Hid (Way 5 2 s x.o a s1) ∧ Hid (Plays 5 2 s1 ((l.drop (k + 1)).map Om.o) rest1 sf ∧ es = outs.map Am.an ++ (a :: rest1)) := by
        obtain ⟨rest, h1, h2⟩ := HF.out
        rw [hdr] at h1
        cases h1 with
        | cons hw hp => exact ⟨_, _, _, Lib.hid hw, Lib.hid ⟨hp, h2⟩⟩
      clear hc hx hB hdr HF
      obtain ⟨kd, at_, mn, Ax, nx, cx, ds⟩ := x
      simp only at c0 c1 c2 c3
      unfold Om.o at HWAY
      simp only at HWAY
      go_upto_region 7 with (fail)
      have HS1 := Lib.hid (HS.out.alloc (.cells #[.int .i64 kd, .int .i64 at_, .int .i64 mn, .slice Ax nx cx] 77))
      have HB1 := Lib.hid (Blk.new wr 77 [.int .i64 kd, .int .i64 at_, .int .i64 mn, .slice Ax nx cx])
      have d0 := HB1.out.cell (k := 0) rfl
      have d1 := HB1.out.cell (k := 1) rfl
      have d2 := HB1.out.cell (k := 2) rfl
      have d3 := HB1.out.cell (k := 3) rfl
      change (wr.alloc (.cells #[.int .i64 kd, .int .i64 at_, .int .i64 mn, .slice Ax nx cx] 77)).cell? _ = _ at d0 d1 d2 d3
      clear c0 c1 c2 c3 HS HB1
      generalize wr.alloc (.cells #[.int .i64 kd, .int .i64 at_, .int .i64 mn, .slice Ax nx cx] 77) = wo at HS1 d0 d1 d2 d3 ⊢
      generalize wr.heap.size = gx at d0 d1 d2 d3 ⊢
      have cC := Lib.hid (check_any kd at_ mn ds Ax nx cx wo HWAY.out HQ.out.2.1 (by have := HQ.out.2.2.1; simp only at this; omega))
      unfold O.val at cC
      go_wp2_with fail
      refine cC.out.mono ?_; rintro en w2 ⟨rfl, hb2⟩
      have HS2 := Lib.hid (HS1.out.later hb2)
      have e0 := (hb2.cell (World.block_lt_of_cell? wo _ d0)).trans d0
      have e1 := (hb2.cell (World.block_lt_of_cell? wo _ d1)).trans d1
      have e2 := (hb2.cell (World.block_lt_of_cell? wo _ d2)).trans d2
      have e3 := (hb2.cell (World.block_lt_of_cell? wo _ d3)).trans d3
      clear cC hb2 d0 d1 d2 d3 HS1
      by_cases he : a.err = 0
      · have eg1 : ∀ args w, (callFunc 24 args).run Try.prog w = .ok (.enter 24 args) w := enters_of Try.func24 (by kernel_rfl) rfl
        have eg2 : ∀ args w, (callFunc 26 args).run Try.prog w = .ok (.enter 26 args) w := enters_of Try.func26 (by kernel_rfl) rfl
        have eg3 : ∀ args w, (callFunc 28 args).run Try.prog w = .ok (.enter 28 args) w := enters_of Try.func28 (by kernel_rfl) rfl
        rw [he]
        go_upto_region 8 with (fail)
        have HS3 : Hid (Sep w (w2.alloc (.cells #[.int .i64 0, .slice none 0 0] 84)) (FL gf gm s.L bl s.c (vI gv gf :: (tI gt gv :: .row 84 2 (.slice A7 k c7) k (outs.flatMap Am.cells) :: (outs.map Am.row ++ [.cells w2.heap.size 84 [.int .i64 0, .slice none 0 0]]))))) := Lib.hid (by
          have h := HS2.out.new 84 [.int .i64 0, .slice none 0 0]
          unfold FL at h ⊢
          simpa using h)
        have b0 := ((Below.refl w2.heap.size w2).alloc (Nat.le_refl _) (.cells #[.int .i64 0, .slice none 0 0] 84))
        have d0 := (b0.cell (World.block_lt_of_cell? w2 _ e0)).trans e0
        have d1 := (b0.cell (World.block_lt_of_cell? w2 _ e1)).trans e1
        have d2 := (b0.cell (World.block_lt_of_cell? w2 _ e2)).trans e2
        have d3 := (b0.cell (World.block_lt_of_cell? w2 _ e3)).trans e3
        clear e0 e1 e2 e3 HS2 b0
        generalize w2.alloc (.cells #[.int .i64 0, .slice none 0 0] 84) = w3 at HS3 d0 d1 d2 d3 ⊢
        generalize w2.heap.size = ga at HS3 ⊢
        have HO1 := Lib.hid (way_ok HO.out HQ.out.2.2.2.1 HWAY.out)
        obtain ⟨fz, hfz⟩ : ∃ z, (zeroValue 79).run Try.prog w3 = .ok z w3 := ⟨_, rfl⟩
        rcases way_read HWAY.out (by decide) (by decide) he with ⟨X, h1, h2, h3, ha, hs1⟩ | ⟨X, m, h1, h2, h3, ha, hs1⟩ | ⟨m, h1, h2, h3, ha, hs1⟩
        · simp only at h1 h2 h3
          subst h1 h2 ha hs1
          have hlk : (Instr.lookup 81 (.map (some gt)) (.int .i64 1) false).run Try.prog w3 = .ok (.func (.func 24) #[] #[.pointer (some ⟨gv, 0, none⟩)]) w3 := HS3.out.look (bl.length + 3) fl_at3 kintL (x := 1) (wf_nat (k := 1) (by omega)) Try.underlying81 hfz
          have cP := Lib.hid (play1_any gv gf gm s bl _ 1 mn X nx cx Ax ds w w3 HS3.out HK.out HO.out HQ.out.1 HQ.out.2.1 (by have := HQ.out.2.1; simp only at this; omega))
          unfold O.val at cP
          have k0 := (show Sep w w3 _ from fl_end ▸ HS3.out).cell _ (at_last _ _) (k := 0) rfl
          clear h3 HWAY he hfz
          go_wp2_with fail
          refine cP.out.mono ?_; rintro en w4 ⟨rfl, bl4, hk4, hs4⟩
          have HK4 := Lib.hid hk4
          rw [fl_end] at hs4
          clear cP hlk hk4 HK HO
          clear HS3 d0 d1 d2 d3 HQ
          have HS4 := Lib.hid hs4
          have p0 := hs4.cell _ (at_last _ _) (k := 0) rfl
          have p1 := hs4.cell _ (at_last _ _) (k := 1) rfl
          have q1 := hs4.froz _ (at_last _ _) (k := 1)
          clear hs4
          go_upto_region 10 with (fail)
          have HS5 := Lib.hid (by have h := HS4.out.set _ (at_last _ _) (k := 1) (.slice none 0 0); rw [set_last] at h; exact h)
          clear HS4 p0 p1 q1
          have f0 := HS5.out.cell _ (at_last _ _) (k := 0) rfl
          have f1 := HS5.out.cell _ (at_last _ _) (k := 1) rfl
          have HS6 : Hid (Sep w (w4.setCell ⟨ga, 1, none⟩ (.slice none 0 0)) (FL gf gm (s.write X ds).L bl4 (s.write X ds).c (vI gv gf :: tI gt gv :: .row 84 2 (.slice A7 k c7) k (outs.flatMap Am.cells) :: (outs ++ [(⟨0, none, 0, 0, []⟩ : Am)]).map Am.row))) := Lib.hid (by
            have h := HS5.out.sub (List.sublist_append_left _ _)
            rw [List.map_append]
            have h2 := h.nilRow 5 1 none; rw [← fl_end] at h2; exact h2)
          clear HS5
          generalize w4.setCell ⟨ga, 1, none⟩ (.slice none 0 0) = w5 at HS6 f0 f1 ⊢
          have hnew := Lib.hid (Rd.of_own (own_new w5 84 #[.int .i64 0, .slice none 0 0] 2 1 rfl (by simp [maxLen]) (Nat.le_refl _)))
          go_wp2_with (at_builtin; refine wpList_append_sep (HS6.out.alloc _) (bl4.length + 4) rfl (.tmp 38) (.tmp 40) 33 rfl 84 ti (.agg #[.int .i64 0, .slice none 0 0]) 2 32 Try.underlying33 hti t0 t1 t2 rfl (by omega) _ k _ rfl fl_at4 _ _ 1 1 _ rfl hnew.out (by simp [Value.oneCell']) (by simp only [maxLen]; omega) (by omega) ?_; intro A9 c9 w9 hc9 hs9 H9'; rw [fl_set4] at H9'; have H9 := Lib.hid H9'; clear H9')
          go_roundg (n - (k + 1))
          case measure => omega
          case rel =>
            refine ⟨k + 1, (s.write X ds), bl4, outs ++ [⟨0, none, 0, 0, []⟩], A9, c9, by omega, rfl, rfl, by go_num, Lib.hid (by rw [List.length_append, HOL.out]; rfl), HK4, HO1, Lib.hid ⟨rest1, HF2.out.1, ?_⟩, ?_⟩
            · rw [HF2.out.2, List.map_append, List.append_assoc]
              rfl
            · have h := H9.out
              rw [List.flatMap_append]
              exact h
        · simp only at h1 h2 h3
          subst h1 h2 h3 ha hs1
          have hlk : (Instr.lookup 81 (.map (some gt)) (.int .i64 2) false).run Try.prog w3 = .ok (.func (.func 26) #[] #[.pointer (some ⟨gv, 0, none⟩)]) w3 := HS3.out.look (bl.length + 3) fl_at3 kintL (x := 2) (wf_nat (k := 2) (by omega)) Try.underlying81 hfz
          have cP := Lib.hid (play2_any gv gf gm s1 bl _ 2 X m nx cx Ax ds w w3 HS3.out HK.out HO.out (wf_le HQ.out.2.2.2.2.2.1) (wf_le HQ.out.2.2.2.2.2.2))
          unfold O.val at cP
          have k0 := (show Sep w w3 _ from fl_end ▸ HS3.out).cell _ (at_last _ _) (k := 0) rfl
          clear HWAY he hfz
          go_wp2_with fail
          refine cP.out.mono ?_; rintro en w4 ⟨A1, c1, n1, rfl, hn1, hs4⟩
          have HK4 := HK
          replace hs4 := fl_end2 hs4
          clear cP hlk HK HO hn1
          obtain ⟨bl4, hbl4⟩ : ∃ bl4, bl4 = bl := ⟨_, rfl⟩
          rw [← hbl4] at hs4 HK4
          clear hbl4
          obtain ⟨rd, hrd⟩ : ∃ rd, rd = s1.read X m := ⟨_, rfl⟩
          rw [← hrd] at hs4 HF2
          clear hrd
          clear HS3 d0 d1 d2 d3 HQ
          have HS4 := Lib.hid hs4
          have p0 := hs4.cell _ (at_last _ _) (k := 0) rfl
          have p1 := hs4.cell _ (at_last _ _) (k := 1) rfl
          have q1 := hs4.froz _ (at_last _ _) (k := 1)
          clear hs4
          go_upto_region 10 with (fail)
          have HS5 := Lib.hid (by have h := HS4.out.set _ (at_last _ _) (k := 1) (.slice A1 n1 c1); rw [set_last] at h; exact h)
          clear HS4 p0 p1 q1
          have f0 := HS5.out.cell _ (at_last _ _) (k := 0) rfl
          have f1 := HS5.out.cell _ (at_last _ _) (k := 1) rfl
          have HS6 : Hid (Sep w (w4.setCell ⟨ga, 1, none⟩ (.slice A1 n1 c1)) (FL gf gm s1.L bl4 s1.c (vI gv gf :: tI gt gv :: .row 84 2 (.slice A7 k c7) k (outs.flatMap Am.cells) :: (outs ++ [(⟨0, A1, n1, c1, rd⟩ : Am)]).map Am.row))) := Lib.hid (by
            have h := HS5.out.sub (List.sublist_append_left _ _)
            rw [List.map_append]
            exact h)
          clear HS5
          generalize w4.setCell ⟨ga, 1, none⟩ (.slice A1 n1 c1) = w5 at HS6 f0 f1 ⊢
          have hnew := Lib.hid (Rd.of_own (own_new w5 84 #[.int .i64 0, .slice A1 n1 c1] 2 1 rfl (by simp [maxLen]) (Nat.le_refl _)))
          go_wp2_with (at_builtin; refine wpList_append_sep (HS6.out.alloc _) (bl4.length + 4) rfl (.tmp 38) (.tmp 40) 33 rfl 84 ti (.agg #[.int .i64 0, .slice none 0 0]) 2 32 Try.underlying33 hti t0 t1 t2 rfl (by omega) _ k _ rfl fl_at4 _ _ 1 1 _ rfl hnew.out (by simp [Value.oneCell']) (by simp only [maxLen]; omega) (by omega) ?_; intro A9 c9 w9 hc9 hs9 H9'; rw [fl_set4] at H9'; have H9 := Lib.hid H9'; clear H9')
          go_roundg (n - (k + 1))
          case measure => omega
          case rel =>
            refine ⟨k + 1, s1, bl4, outs ++ [⟨0, A1, n1, c1, rd⟩], A9, c9, by omega, rfl, rfl, by go_num, Lib.hid (by rw [List.length_append, HOL.out]; rfl), HK4, HO1, Lib.hid ⟨rest1, HF2.out.1, ?_⟩, ?_⟩
            · rw [HF2.out.2, List.map_append, List.append_assoc]
              rfl
            · have h := H9.out
              rw [List.flatMap_append]
              exact h
        · simp only at h1 h2 h3
          subst h1 h2 ha hs1
          have hlk : (Instr.lookup 81 (.map (some gt)) (.int .i64 3) false).run Try.prog w3 = .ok (.func (.func 28) #[] #[.pointer (some ⟨gv, 0, none⟩)]) w3 := HS3.out.look (bl.length + 3) fl_at3 kintL (x := 3) (wf_nat (k := 3) (by omega)) Try.underlying81 hfz
          have cP := Lib.hid (play3_any gv gf gm s bl _ 3 at_ m nx cx Ax ds w w3 HS3.out HK.out HO.out h3)
          unfold O.val at cP
          have k0 := (show Sep w w3 _ from fl_end ▸ HS3.out).cell _ (at_last _ _) (k := 0) rfl
          clear h3 HWAY he hfz
          go_wp2_with fail
          refine cP.out.mono ?_; rintro en w4 ⟨rfl, bl4, hk4, hs4⟩
          have HK4 := Lib.hid hk4
          rw [fl_end] at hs4
          clear cP hlk hk4 HK HO
          clear HS3 d0 d1 d2 d3 HQ
          have HS4 := Lib.hid hs4
          have p0 := hs4.cell _ (at_last _ _) (k := 0) rfl
          have p1 := hs4.cell _ (at_last _ _) (k := 1) rfl
          have q1 := hs4.froz _ (at_last _ _) (k := 1)
          clear hs4
          go_upto_region 10 with (fail)
          have HS5 := Lib.hid (by have h := HS4.out.set _ (at_last _ _) (k := 1) (.slice none 0 0); rw [set_last] at h; exact h)
          clear HS4 p0 p1 q1
          have f0 := HS5.out.cell _ (at_last _ _) (k := 0) rfl
          have f1 := HS5.out.cell _ (at_last _ _) (k := 1) rfl
          have HS6 : Hid (Sep w (w4.setCell ⟨ga, 1, none⟩ (.slice none 0 0)) (FL gf gm (s.cut m).L bl4 (s.cut m).c (vI gv gf :: tI gt gv :: .row 84 2 (.slice A7 k c7) k (outs.flatMap Am.cells) :: (outs ++ [(⟨0, none, 0, 0, []⟩ : Am)]).map Am.row))) := Lib.hid (by
            have h := HS5.out.sub (List.sublist_append_left _ _)
            rw [List.map_append]
            have h2 := h.nilRow 5 1 none; rw [← fl_end] at h2; exact h2)
          clear HS5
          generalize w4.setCell ⟨ga, 1, none⟩ (.slice none 0 0) = w5 at HS6 f0 f1 ⊢
          have hnew := Lib.hid (Rd.of_own (own_new w5 84 #[.int .i64 0, .slice none 0 0] 2 1 rfl (by simp [maxLen]) (Nat.le_refl _)))
          go_wp2_with (at_builtin; refine wpList_append_sep (HS6.out.alloc _) (bl4.length + 4) rfl (.tmp 38) (.tmp 40) 33 rfl 84 ti (.agg #[.int .i64 0, .slice none 0 0]) 2 32 Try.underlying33 hti t0 t1 t2 rfl (by omega) _ k _ rfl fl_at4 _ _ 1 1 _ rfl hnew.out (by simp [Value.oneCell']) (by simp only [maxLen]; omega) (by omega) ?_; intro A9 c9 w9 hc9 hs9 H9'; rw [fl_set4] at H9'; have H9 := Lib.hid H9'; clear H9')
          go_roundg (n - (k + 1))
          case measure => omega
          case rel =>
            refine ⟨k + 1, (s.cut m), bl4, outs ++ [⟨0, none, 0, 0, []⟩], A9, c9, by omega, rfl, rfl, by go_num, Lib.hid (by rw [List.length_append, HOL.out]; rfl), HK4, HO1, Lib.hid ⟨rest1, HF2.out.1, ?_⟩, ?_⟩
            · rw [HF2.out.2, List.map_append, List.append_assoc]
              rfl
            · have h := H9.out
              rw [List.flatMap_append]
              exact h
      · obtain ⟨ha, hs1⟩ := way_no HWAY.out he
        have HAN := Lib.hid ha
        subst hs1
        generalize a.err = er at HAN he ⊢
        have hz : (er == 0) = false := by simpa using he
        clear ha e0 e1 e2 e3
        go_upto_region 8 with (fail)
        have HS3 : Hid (Sep w (w2.alloc (.cells #[.int .i64 er, .slice none 0 0] 84)) (FL gf gm s1.L bl s1.c (vI gv gf :: tI gt gv :: .row 84 2 (.slice A7 k c7) k (outs.flatMap Am.cells) :: outs.map Am.row))) := Lib.hid (HS2.out.alloc _)
        have f0 := (Blk.new w2 84 [.int .i64 er, .slice none 0 0]).cell (k := 0) rfl
        have f1 := (Blk.new w2 84 [.int .i64 er, .slice none 0 0]).cell (k := 1) rfl
        change (w2.alloc (.cells #[.int .i64 er, .slice none 0 0] 84)).cell? _ = _ at f0 f1
        generalize w2.alloc (.cells #[.int .i64 er, .slice none 0 0] 84) = w3 at HS3 f0 f1 ⊢
        generalize w2.heap.size = ga at f0 f1 ⊢
        clear HS2
        have hnew := Lib.hid (Rd.of_own (own_new w3 84 #[.int .i64 er, .slice none 0 0] 2 1 rfl (by simp [maxLen]) (Nat.le_refl _)))
        go_wp2_with (at_builtin; refine wpList_append_sep (HS3.out.alloc _) (bl.length + 4) rfl (.tmp 38) (.tmp 40) 33 rfl 84 ti (.agg #[.int .i64 0, .slice none 0 0]) 2 32 Try.underlying33 hti t0 t1 t2 rfl (by omega) _ k _ rfl fl_at4 _ _ 1 1 _ rfl hnew.out (by simp [Value.oneCell']) (by simp only [maxLen]; omega) (by omega) ?_; intro A9 c9 w9 hc9 hs9 H9'; rw [fl_set4] at H9'; have H9 := Lib.hid H9'; clear H9')
        go_roundg (n - (k + 1))
        case measure => omega
        case rel =>
          refine ⟨k + 1, s1, bl, outs ++ [⟨er, none, 0, 0, []⟩], A9, c9, by omega, rfl, rfl, by go_num, Lib.hid (by rw [List.length_append, HOL.out]; rfl), HK, HO, Lib.hid ⟨rest1, HF2.out.1, ?_⟩, ?_⟩
          · rw [HF2.out.2, HAN.out, List.map_append, List.append_assoc]
            rfl
          · have h := H9.out.nilRow 5 1 none
            rw [List.flatMap_append, List.map_append]
            unfold FL at h ⊢
            simpa [Am.cells, Am.row] using h
    · obtain ⟨rest, h1, h2⟩ := HF.out
      rw [List.drop_of_length_le (by rw [HR.out.len]; omega)] at h1
      cases h1
      rw [List.append_nil] at h2
      have HES := Lib.hid h2
      have fv := fun z : LaterOf wr => z.cell (HS.out.cell (bl.length + 2) fl_J (k := 0) rfl)
      have f0 := fun z : LaterOf wr => z.cell (HS.out.cell 0 rfl (k := 0) rfl)
      have f1 := fun z : LaterOf wr => z.cell (HS.out.cell 0 rfl (k := 1) rfl)
      have hln := fun z : LaterOf wr => (HS.out.later z.h).mapLen 1 rfl Try.underlying72
      clear h2 HF HP
      go_upto_region 12 with (fail)
      refine wp_region_later (by kernel_rfl) (by kernel_rfl) ?_
      repeat (go_big_quiet_step (fail))
      refine wpQuiet_nil ?_; intro xw hw'; obtain ⟨xq, hw''⟩ := hw'; obtain ⟨xw0, xh⟩ := xq; change xw = xw0 at hw''; subst hw''
      go_wp2
      refine bodyPost_ret (v := .tuple #[.slice A7 k c7, .int .i64 (sf.L : Int), .int .i64 (bl.length : Int)]) (by simp [results, Try.results10]) rfl ?_
      have HSx := HS.out.later xh
      refine ⟨A7, k, c7, bl, rfl, HK.out, HSx.below, outs, ?_, HES.out.symm⟩
      refine AL_of (i := bl.length + 4) (c := c7) (fun j => bl.length + 5 + j) HSx ?_ (fun j x hj => ?_)
      · unfold FL
        rw [List.getElem?_cons_succ, List.getElem?_cons_succ, List.getElem?_append_right (by rw [List.length_map]; omega), List.length_map, show bl.length + 2 - bl.length = 2 by omega]
        rfl
      · unfold FL
        rw [show bl.length + 5 + j = (bl.length + 3 + j) + 1 + 1 by omega, List.getElem?_cons_succ, List.getElem?_cons_succ, List.getElem?_append_right (by rw [List.length_map]; omega), List.length_map, show bl.length + 3 + j - bl.length = j + 1 + 1 + 1 by omega, List.getElem?_cons_succ, List.getElem?_cons_succ, List.getElem?_cons_succ, List.getElem?_map, hj]
        rfl
end Fl
end Go.Proofs.Ytfljbiobiobamaa
