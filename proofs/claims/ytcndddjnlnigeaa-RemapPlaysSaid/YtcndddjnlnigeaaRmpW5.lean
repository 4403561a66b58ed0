/-
  Walk of remap.Play: what it sets up. Conditions: none.
-/
import Derived.Test.YtcndddjnlnigeaaRmpW4
import Derived.Test.YtcndddjnlnigeaaInv
import Derived.OrdersHeld
import Derived.Deep.RegionWith
import Derived.Shelf.Abstract
namespace Go.Proofs.Ytcndddjnlnigeaa
open Go.RowKit Go.Shelf
set_option linter.unusedVariables false
namespace Rmp

theorem bcell {W w1 : World} (hb : Below W.heap.size W w1) : (∀ b o, b < W.heap.size → w1.cell? ⟨b, o, none⟩ = W.cell? ⟨b, o, none⟩) ∧ (∀ b o, b < W.heap.size → w1.frozen? ⟨b, o, none⟩ = W.frozen? ⟨b, o, none⟩) :=
  ⟨fun b o h => hb.cell (p := ⟨b, o, none⟩) h, fun b o h => hb.frozen (p := ⟨b, o, none⟩) h⟩
structure R4 where
  (es at_ nums : List Int) (err : Int)
def RRet (w : World) (r : R4) (e : Ending) (w' : World) : Prop := ∃ v A c, e = .returned (.tuple #[v, rowV r.at_, .slice A r.nums.length c, .int .i64 r.err]) ∧ w'.ownsRow w.heap.size 27 1 v r.es.length (r.es.flatMap icell) ∧
  Rd w' w'.heap.size 1 A r.nums.length (r.nums.flatMap icell) ∧ Below w.heap.size w w'
theorem int_info : (Try.prog.info? 3).map (fun i => (i.zero, i.size, i.bytes)) = some (some (.int .i64 0), 1, 8) := by kernel_rfl
theorem loadAt_of {P : Program} {t : TypeId} {g : Nat} {w : World} {v : Value} (h : (loadVar t ⟨g, 0, none⟩).run P w = .ok v w) : (Instr.loadAt t (.pointer (some ⟨g, 0, none⟩))).run P w = .ok v w := by
  simp only [Instr.loadAt, Instr.sureAddr, Sem.run_bind, Result.andThen]
  exact h
theorem Blk.rd {w : World} {g t n : Nat} {l : List Int} (h : Blk w g t (l.flatMap icell)) (hn : l.length = n) : Rd w w.heap.size 1 (some ⟨g, 0, none⟩) n (l.flatMap icell) :=
  ⟨by rw [icell_size, hn, Nat.mul_one], fun _ => ⟨g, 0, rfl, h.lt, fun j u hu => by rw [Nat.zero_add]; exact h.cell hu⟩⟩
theorem errno_info : (Try.prog.info? 27).map (fun i => (i.zero, i.size, i.bytes)) = some (some (.int .i64 0), 1, 8) := by kernel_rfl
theorem flat_replicate (n : Nat) (x : Int) : (List.replicate n x).flatMap icell = List.replicate n (.int .i64 x) := by
  induction n with
  | zero => rfl
  | succ n ih => rw [List.replicate_succ, List.replicate_succ, List.flatMap_cons, ih]; rfl
theorem made_ints (n : Nat) : (madeCells (Value.int IntKind.i64 0).cells (n * 1)).toList = (List.replicate n (0 : Int)).flatMap icell := by
  have := toList_madeCells_one (.int .i64 0) n
  rw [flat_replicate, Nat.mul_one]
  exact this
theorem make_ints (n : Nat) (hn : n ≤ 4096) : ∃ M : Array Value, M.toList = (List.replicate n (0 : Int)).flatMap icell ∧
    ∀ W, (Instr.makeSlice 32 (.int .i64 (n : Int)) (.int .i64 (n : Int))).run Try.prog W = .ok (.slice (some ⟨W.heap.size, 0, none⟩) n n) (W.alloc (.cells M 3)) := by
  obtain ⟨i0, hi, hz0, hz1, hz2⟩ := info_parts int_info
  refine ⟨madeCells (Value.int IntKind.i64 0).cells (n * 1), made_ints n, fun W => ?_⟩
  have := run_make (P := Try.prog) W 32 3 i0 (.int .i64 0) Try.underlying32 hi hz0 .i64 .i64 (n : Int) (n : Int) (by omega) (Int.le_refl _) (by rw [hz2]; omega) (by omega)
  rw [Int.toNat_natCast, hz1] at this
  exact this

def fillL (pages k : Nat) : List Int := List.replicate k (-1) ++ List.replicate (pages - k) 0
theorem fillL_len {pages k : Nat} (h : k ≤ pages) : (fillL pages k).length = pages := by simp [fillL]; omega
theorem fillL_zero (pages : Nat) : fillL pages 0 = List.replicate pages 0 := by simp [fillL]
theorem fillL_full (pages : Nat) : fillL pages pages = numL pages [] := by simp [fillL, numL]
theorem fillL_set {pages k : Nat} (h : k < pages) : (fillL pages k).set k (-1) = fillL pages (k + 1) := by
  unfold fillL
  rw [List.set_append_right _ _ (by simp), List.length_replicate, Nat.sub_self]
  obtain ⟨d, hd⟩ : ∃ d, pages - k = d + 1 := ⟨pages - k - 1, by omega⟩
  rw [hd, List.replicate_succ, List.set_cons_zero, show pages - (k + 1) = d by omega, List.replicate_succ' , List.append_assoc]
  rfl

theorem Caps.grown {w w' : World} {gb gp ga gn gx pages base E size n : Nat} {l : List Int} {v : Value} {xs : List Value} (h : Caps w gb gp ga gn gx pages l) (ho : w.ownsRow base E size v n xs) (hg : w.grownBy w' v.ownBlock) (hb : gb < base) (hp : gp < base) (ha : ga < base) (hn : gn < base) (hx : gx < base) : Caps w' gb gp ga gn gx pages l :=
  ⟨h.b.grown hg (own_far ho hb), h.p.grown hg (own_far ho hp), h.a.grown hg (own_far ho ha), h.n.grown hg (own_far ho hn), h.x.grown hg (own_far ho hx), h.ne⟩
/-- what region 3 lays -/
def Laid (W wc : World) (B pages : Nat) (p q : Value) : Prop := ∃ ga gn gx : Nat, p = .pointer (some ⟨ga, 0, none⟩) ∧ q = .pointer (some ⟨gn, 0, none⟩) ∧ Blk wc ga 34 (neg16.flatMap icell) ∧
  Blk wc gn 32 [.slice (some ⟨gx, 0, none⟩) pages pages] ∧ Blk wc gx 3 ((List.replicate pages (0 : Int)).flatMap icell) ∧ B ≤ ga ∧ B ≤ gn ∧ B ≤ gx ∧ Below B W wc
/-- what holds where the operations L of region 3 have come up -/
structure R3 (W w' : World) (pages : Nat) (L : Nat → Bool) (u8 u9 u23 u24 u25 : Value) : Prop where
  b : Below W.heap.size W w'
  o0 : L 0 = true → u23 = rowV neg16
  o1 : L 1 = true → u24 = .int .i64 (pages : Int)
  o2 : L 2 = true → ∃ gx, u25 = .slice (some ⟨gx, 0, none⟩) pages pages ∧ Blk w' gx 3 ((List.replicate pages (0 : Int)).flatMap icell) ∧ W.heap.size ≤ gx
  o3 : L 3 = true → ∃ ga, u8 = .pointer (some ⟨ga, 0, none⟩) ∧ Blk w' ga 34 ((if L 5 = true then neg16 else zero16).flatMap icell) ∧ W.heap.size ≤ ga
  o4 : L 4 = true → ∃ gn, u9 = .pointer (some ⟨gn, 0, none⟩) ∧ Blk w' gn 32 [if L 6 = true then u25 else .slice none 0 0] ∧ W.heap.size ≤ gn
section
variable {W w' w1 : World} {pages : Nat} {L : Nat → Bool} {u8 u9 u23 u24 u25 : Value}
/-- behind what leaves every block as it is -/
theorem R3.later (h : R3 W w' pages L u8 u9 u23 u24 u25) (hb : Below w'.heap.size w' w1) : R3 W w1 pages L u8 u9 u23 u24 u25 where
  b := h.b.trans (hb.mono h.b.size)
  o0 := h.o0
  o1 := h.o1
  o2 := fun e => by obtain ⟨g, h1, h2, h3⟩ := h.o2 e; exact ⟨g, h1, h2.later hb, h3⟩
  o3 := fun e => by obtain ⟨g, h1, h2, h3⟩ := h.o3 e; exact ⟨g, h1, h2.later hb, h3⟩
  o4 := fun e => by obtain ⟨g, h1, h2, h3⟩ := h.o4 e; exact ⟨g, h1, h2.later hb, h3⟩
theorem R3.put0 (h : R3 W w' pages L u8 u9 u23 u24 u25) : R3 W w' pages (fun j => if j = 0 then true else L j) u8 u9 (rowV neg16) u24 u25 :=
  ⟨h.b, fun _ => rfl, h.o1, h.o2, h.o3, h.o4⟩
theorem R3.put1 (h : R3 W w' pages L u8 u9 u23 u24 u25) : R3 W w' pages (fun j => if j = 1 then true else L j) u8 u9 u23 (.int .i64 (pages : Int)) u25 :=
  ⟨h.b, h.o0, fun _ => rfl, h.o2, h.o3, h.o4⟩
theorem R3.put2 (h : R3 W w' pages L u8 u9 u23 u24 u25) (h6 : L 6 = true → L 2 = true) (hn : L 2 = false) {M : Array Value} (hM : M.toList = (List.replicate pages (0 : Int)).flatMap icell) :
    R3 W (w'.alloc (.cells M 3)) pages (fun j => if j = 2 then true else L j) u8 u9 u23 u24 (.slice (some ⟨w'.heap.size, 0, none⟩) pages pages) := by
  have h' := h.later ((Below.refl w'.heap.size w').alloc (Nat.le_refl _) (.cells M 3))
  have e6 : ¬ L 6 = true := fun e => by rw [h6 e] at hn; cases hn
  refine ⟨h'.b, h'.o0, h'.o1, fun _ => ⟨_, rfl, ?_, h.b.size⟩, h'.o3, fun e => ?_⟩
  · have := Blk.new' w' 3 M
    rwa [hM] at this
  · obtain ⟨g, h1, h2, h3⟩ := h'.o4 e
    rw [if_neg e6] at h2
    exact ⟨g, h1, by rw [show (if (6 : Nat) = 2 then true else L 6) = L 6 from rfl, if_neg e6]; exact h2, h3⟩
theorem R3.put3 (h : R3 W w' pages L u8 u9 u23 u24 u25) (h5 : L 5 = true → L 3 = true) (hn : L 3 = false) :
    R3 W (w'.alloc (.cells Z16 34)) pages (fun j => if j = 3 then true else L j) (.pointer (some ⟨w'.heap.size, 0, none⟩)) u9 u23 u24 u25 := by
  have h' := h.later ((Below.refl w'.heap.size w').alloc (Nat.le_refl _) (.cells Z16 34))
  have e5 : ¬ L 5 = true := fun e => by rw [h5 e] at hn; cases hn
  refine ⟨h'.b, h'.o0, h'.o1, h'.o2, fun _ => ⟨_, rfl, ?_, h.b.size⟩, h'.o4⟩
  show Blk _ _ _ ((if L 5 = true then neg16 else zero16).flatMap icell)
  rw [if_neg e5]
  exact Blk.new w' 34 (zero16.flatMap icell)
theorem R3.put4 (h : R3 W w' pages L u8 u9 u23 u24 u25) (h6 : L 6 = true → L 4 = true) (hn : L 4 = false) :
    R3 W (w'.alloc (.cells #[.slice none 0 0] 32)) pages (fun j => if j = 4 then true else L j) u8 (.pointer (some ⟨w'.heap.size, 0, none⟩)) u23 u24 u25 := by
  have h' := h.later ((Below.refl w'.heap.size w').alloc (Nat.le_refl _) (.cells #[.slice none 0 0] 32))
  have e6 : ¬ L 6 = true := fun e => by rw [h6 e] at hn; cases hn
  refine ⟨h'.b, h'.o0, h'.o1, h'.o2, h'.o3, fun _ => ⟨_, rfl, ?_, h.b.size⟩⟩
  show Blk _ _ _ [if L 6 = true then u25 else .slice none 0 0]
  rw [if_neg e6]
  exact Blk.new w' 32 [.slice none 0 0]
theorem blk_ne {w : World} {g g' t t' : Nat} {l l' : List Value} (h : Blk w g t l) (h' : Blk w g' t' l') (ht : t ≠ t') : g ≠ g' := fun e => by
  subst e
  unfold Blk at h h'
  rw [h] at h'
  simp at h'
  exact ht h'.2
theorem R3.put5 {ga : Nat} (h : R3 W w' pages L (.pointer (some ⟨ga, 0, none⟩)) u9 u23 u24 u25) (h3 : Blk w' ga 34 (zero16.flatMap icell)) (hg : W.heap.size ≤ ga) :
    R3 W (w'.setRow ga (neg16.flatMap icell).toArray) pages (fun j => if j = 5 then true else L j) (.pointer (some ⟨ga, 0, none⟩)) u9 u23 u24 u25 := by
  refine ⟨below_row h.b hg _, h.o0, h.o1, fun e => ?_, fun e => ⟨ga, rfl, h3.row _, hg⟩, fun e => ?_⟩
  · obtain ⟨g, h1, h2, h3'⟩ := h.o2 e
    exact ⟨g, h1, h2.rowOther (blk_ne h2 h3 (by decide)) _, h3'⟩
  · obtain ⟨g, h1, h2, h3'⟩ := h.o4 e
    exact ⟨g, h1, h2.rowOther (blk_ne h2 h3 (by decide)) _, h3'⟩
theorem R3.put6 {gn : Nat} (h : R3 W w' pages L u8 (.pointer (some ⟨gn, 0, none⟩)) u23 u24 u25) (h4 : Blk w' gn 32 [.slice none 0 0]) (hg : W.heap.size ≤ gn) :
    R3 W (w'.setCell ⟨gn, 0, none⟩ u25) pages (fun j => if j = 6 then true else L j) u8 (.pointer (some ⟨gn, 0, none⟩)) u23 u24 u25 := by
  refine ⟨h.b.setCell hg _, h.o0, h.o1, fun e => ?_, fun e => ?_, fun e => ⟨gn, rfl, h4.set _, hg⟩⟩
  · obtain ⟨g, h1, h2, h3'⟩ := h.o2 e
    exact ⟨g, h1, h2.other (blk_ne h2 h4 (by decide)) _, h3'⟩
  · obtain ⟨g, h1, h2, h3'⟩ := h.o3 e
    exact ⟨g, h1, h2.other (blk_ne h2 h4 (by decide)) _, h3'⟩
end

set_option maxRecDepth 100000 in
set_option maxHeartbeats 1600000 in
theorem play_any (pages : Nat) (hpg : pages ≤ 4096) (A : Option Addr) (n c : Nat) (ops : List Op) (ES lf : List Int) (w : World) (hr : Rd w w.heap.size 2 A n (ops.flatMap Op.cells)) (hops : ops.length = n) (hn : n * 16 ≤ 140737488351232) (hP : Plays pages [] ops ES lf) (hlf : lf.length ≤ pages) (hes : ES.length = ops.length) :
    Calls Try.prog 12 #[.int .i64 (pages : Int), .slice A n c] w (RRet w ⟨ES, atL lf, numL pages lf, 0⟩) := by
  obtain ⟨ie, hie, he0, he1, he2⟩ := info_parts errno_info
  have HR := Lib.hid hr
  have HP := Lib.hid hops
  have HPL := Lib.hid hP
  have HLF := Lib.hid hlf
  have HES := Lib.hid hes
  clear hr hops hP hlf hes
  obtain ⟨M, hM, hmk⟩ := make_ints pages hpg
  have hmf : ∀ (fn : Fn) (first cap : Array Value) (w : World), (Instr.makeFunc fn first cap).run Try.prog w = .ok (.func fn first cap) w := fun _ _ _ _ => rfl
  have i0 : (0 : Int) ≤ (pages : Int) := by omega
  have i1 : (pages : Int) ≤ 4096 := by omega
  go_enter Try.func12, Try.ntmps12
  go_upto_region 3 with (fail)
  have FP : Hid (Blk ((w.alloc (.cells #[.int .i64 (pages : Int)] 3)).alloc (.cells Z16 34)) w.heap.size 3 [.int .i64 (pages : Int)]) := Lib.hid ((Blk.new w _ [.int .i64 (pages : Int)]).alloc _)
  have FR : Hid (Blk ((w.alloc (.cells #[.int .i64 (pages : Int)] 3)).alloc (.cells Z16 34)) (w.heap.size + 1) 34 (zero16.flatMap icell)) := Lib.hid (by
    have := Blk.new (w.alloc (.cells #[.int .i64 (pages : Int)] 3)) 34 (zero16.flatMap icell)
    rwa [show (w.alloc (.cells #[.int .i64 (pages : Int)] 3)).heap.size = w.heap.size + 1 by simp] at this)
  have hB0 : Below w.heap.size w ((w.alloc (.cells #[.int .i64 (pages : Int)] 3)).alloc (.cells Z16 34)) := ((Below.refl _ _).alloc (Nat.le_refl _) _).alloc (by simp) _
  have lR := FR.out.lt
  have G : ((w.alloc (.cells #[.int .i64 (pages : Int)] 3)).alloc (.cells #[.int .i64 0, .int .i64 0, .int .i64 0, .int .i64 0, .int .i64 0, .int .i64 0, .int .i64 0, .int .i64 0, .int .i64 0, .int .i64 0, .int .i64 0, .int .i64 0, .int .i64 0, .int .i64 0, .int .i64 0, .int .i64 0] 34)) = ((w.alloc (.cells #[.int .i64 (pages : Int)] 3)).alloc (.cells Z16 34)) := rfl
  try rw [G]
  clear G
  generalize ((w.alloc (.cells #[.int .i64 (pages : Int)] 3)).alloc (.cells Z16 34)) = W at FP FR hB0 lR ⊢
  have cu : Hid (∀ W', Calls Try.prog 37 #[] W' (Ret W' (.agg #[.int .i64 (-1), .int .i64 (-1), .int .i64 (-1), .int .i64 (-1), .int .i64 (-1), .int .i64 (-1), .int .i64 (-1), .int .i64 (-1), .int .i64 (-1), .int .i64 (-1), .int .i64 (-1), .int .i64 (-1), .int .i64 (-1), .int .i64 (-1), .int .i64 (-1), .int .i64 (-1)]))) := Lib.hid (fun W' => unmapped_any W')
  have c0 : W.cell? ⟨w.heap.size, 0, none⟩ = some (.int .i64 (pages : Int)) := FP.out.cell rfl
  have lP := FP.out.lt
  have lP1 : w.heap.size < W.heap.size + 1 := by omega
  have lP2 : w.heap.size < W.heap.size + 1 + 1 := by omega
  have lP3 : w.heap.size < W.heap.size + 1 + 1 + 1 := by omega
  go_cut [8, 9] (fun p q wc => Laid W wc W.heap.size pages p q)
  case first =>
    refine wp_region_inv (fun L a w' => (L 6 = true → L 2 = true) ∧ (L 6 = true → L 4 = true) ∧ (L 5 = true → L 3 = true) ∧ ∃ u8 u9 u23 u24 u25, a = ⟨#[.int .i64 (pages : Int), .slice A n c, .pointer (some ⟨w.heap.size, 0, none⟩), undef, .slice none 0 0, .pointer (some ⟨w.heap.size + 1, 0, none⟩), .slice none 0 0, .int .i64 0, u8, u9, undef, undef, undef, undef, undef, undef, .int .i64 (pages : Int), .bool (decide ((pages : Int) < 0)), .bool (decide ((pages : Int) < 0)), .int .i64 (pages : Int), .bool (decide (4096 < (pages : Int))), .bool (decide ((pages : Int) < 0) || decide (4096 < (pages : Int))), undef, u23, u24, u25, undef, undef, undef, undef, undef, undef, undef, undef, undef, undef, undef, undef, undef, undef, undef, undef, undef, undef, undef, undef, undef, undef, undef, undef, undef, undef], []⟩ ∧ R3 W w' pages L u8 u9 u23 u24 u25) rfl (by kernel_rfl) ⟨by simp, by simp, by simp, _, _, _, _, _, rfl, ?_⟩ ?_ ?_
    · exact ⟨(Below.refl _ _).drew, by simp, by simp, by simp, by simp, by simp⟩
    · rintro L a w' i o ⟨q1, q2, q3, u8, u9, u23, u24, u25, ha, h⟩ ho hi he
      dsimp only at ha
      subst ha
      rcases i with _|_|_|_|_|_|_|i
      all_goals cases ho
      all_goals simp [Region.binds] at he
      · refine wpOp_step rfl (fun K hK => ?_)
        go_simp
        refine (cu.out _).mono ?_
        rintro e w1 ⟨rfl, hb1⟩
        exact hK _ _ ⟨q1, q2, q3, _, _, _, _, _, rfl, (h.later hb1).put0⟩
      · have c1 : w'.cell? ⟨w.heap.size, 0, none⟩ = some (.int .i64 (pages : Int)) := by rw [(bcell h.b).1 _ _ lP]; exact c0
        refine wpOp_step rfl (fun K hK => ?_)
        go_simp
        exact hK _ _ ⟨q1, q2, q3, _, _, _, _, _, rfl, h.put1⟩
      · obtain rfl := h.o1 he
        refine wpOp_step rfl (fun K hK => ?_)
        go_simp
        try simp only [hmk]
        try go_simp
        exact hK _ _ ⟨fun _ => rfl, q2, q3, _, _, _, _, _, rfl, h.put2 q1 hi hM⟩
      · refine wpOp_step rfl (fun K hK => ?_)
        go_simp
        exact hK _ _ ⟨q1, q2, fun _ => rfl, _, _, _, _, _, rfl, h.put3 q3 hi⟩
      · refine wpOp_step rfl (fun K hK => ?_)
        go_simp
        exact hK _ _ ⟨q1, fun _ => rfl, q3, _, _, _, _, _, rfl, h.put4 q2 hi⟩
      · obtain rfl := h.o0 he.2.1
        obtain ⟨ga, rfl, y1, y2⟩ := h.o3 he.1
        rw [if_neg (by rw [hi]; decide)] at y1
        refine wpOp_at rfl rfl ?_
        refine wp_store_row 34 (.tmp 8) (.tmp 23) rfl ga (neg16.flatMap icell).toArray rfl rfl 34 (zero16.flatMap icell).toArray y1 (by kernel_rfl) rfl (icell_one _) ?_
        exact ⟨q1, q2, fun _ => he.1, _, _, _, _, _, rfl, h.put5 y1 y2⟩
      · obtain ⟨gx, rfl, x1, x2⟩ := h.o2 (by simp [he])
        obtain ⟨gn, rfl, z1, z2⟩ := h.o4 (by simp [he])
        rw [if_neg (by rw [hi]; decide)] at z1
        have c1 := z1.cell (k := 0) rfl
        have f1 : w'.frozen? ⟨gn, 0, none⟩ = false := z1.froz
        refine wpOp_step rfl (fun K hK => ?_)
        go_simp
        exact hK _ _ ⟨fun _ => (by simp [he]), fun _ => (by simp [he]), q3, _, _, _, _, _, rfl, h.put6 z1 z2⟩
    · rintro L a w' ⟨q1, q2, q3, u8, u9, u23, u24, u25, ha, h⟩ hall
      dsimp only at ha
      subst ha
      obtain ⟨gx, rfl, x1, x2⟩ := h.o2 (hall 2 (by decide))
      obtain ⟨ga, rfl, y1, y2⟩ := h.o3 (hall 3 (by decide))
      obtain ⟨gn, rfl, z1, z2⟩ := h.o4 (hall 4 (by decide))
      rw [if_pos (hall 5 (by decide))] at y1
      rw [if_pos (hall 6 (by decide))] at z1
      go_wp2
      go_meet
      exact ⟨ga, gn, gx, rfl, rfl, y1, z1, x1, y2, z2, x2, h.b⟩
  case rest =>
    obtain ⟨ga, gn, gx, rfl, rfl, ha, hn', hx, ga0, gn0, gx0, hb⟩ := hcut
    have nax := blk_ne ha hx (by decide)
    have nnx := blk_ne hn' hx (by decide)
    have nan := blk_ne ha hn' (by decide)
    have HBx : Hid (Blk wc gx 3 ((fillL pages 0).flatMap icell)) := Lib.hid (by rw [fillL_zero]; exact hx)
    have HA := Lib.hid ha
    have HN := Lib.hid hn'
    have HPg := Lib.hid (FP.out.later hb)
    have HRz := Lib.hid (FR.out.later hb)
    have hB1 := hB0.trans (hb.mono hB0.size)
    have cn := HN.out.cell (k := 0) rfl
    clear ha hn' hx hb FP FR cu c0 lP1 lP2 lP3
    go_wp2
    go_loopg [28] pages (fun g i wr => ∃ k : Nat, k ≤ pages ∧ g = pages - k ∧ i = .int .i64 k ∧ Blk wr gx 3 ((fillL pages k).flatMap icell) ∧ Blk wr ga 34 (neg16.flatMap icell) ∧ Blk wr gn 32 [.slice (some ⟨gx, 0, none⟩) pages pages] ∧
      Blk wr w.heap.size 3 [.int .i64 (pages : Int)] ∧ Blk wr (w.heap.size + 1) 34 (zero16.flatMap icell) ∧ Below w.heap.size w wr)
    case atStart => exact ⟨0, by omega, rfl, rfl, HBx.out, HA.out, HN.out, HPg.out, HRz.out, hB1⟩
    case round =>
      clear HBx HA HN HPg HRz hB1
      obtain ⟨k, hk, rfl, rfl, hx, ha, hn', hp, hz, hB⟩ := hrel
      have cn := hn'.cell (k := 0) rfl
      by_cases hlt : k < pages
      · have u0 := hx.froz (k := k)
        have u1 : wr.cell? ⟨gx, k, none⟩ = some (.int .i64 0) := hx.cell (hcell (by
          unfold fillL
          rw [List.getElem?_append_right (by simp), List.length_replicate, Nat.sub_self, List.getElem?_replicate, if_pos (by omega)]))
        have i0 : (0 : Int) ≤ (k : Int) := by omega
        have i1 : (k : Int) < (pages : Int) := by omega
        have hx' := Lib.hid (show Blk (wr.setCell ⟨gx, k, none⟩ (.int .i64 (-1))) gx 3 ((fillL pages (k + 1)).flatMap icell) by
          have := set_blk (k := k) hx (-1)
          rwa [fillL_set hlt] at this)
        have ha' := Lib.hid (ha.other (g' := gx) (k := k) nax (.int .i64 (-1)))
        have hn'' := Lib.hid (hn'.other (g' := gx) (k := k) nnx (.int .i64 (-1)))
        have hp' := Lib.hid (hp.other (g' := gx) (k := k) (by omega) (.int .i64 (-1)))
        have hz' := Lib.hid (hz.other (g' := gx) (k := k) (by omega) (.int .i64 (-1)))
        have hB' := hB.setCell (p := ⟨gx, k, none⟩) (by simp; omega) (.int .i64 (-1))
        clear hx ha hn' hp hz
        go_wp2
        go_roundg (pages - (k + 1))
        case measure => omega
        case rel => exact ⟨k + 1, by omega, rfl, by go_num, hx'.out, ha'.out, hn''.out, hp'.out, hz'.out, hB'⟩
      · obtain rfl : pages = k := by omega
        have HX := Lib.hid hx
        rw [fillL_full] at HX
        have HA := Lib.hid ha
        have HN := Lib.hid hn'
        have HPg := Lib.hid hp
        have HZ := Lib.hid hz
        clear hx ha hn' hp hz hlt hk
        have Hgb : Hid (Blk (wr.alloc (.cells #[.int .i64 0] 3)) wr.heap.size 3 [.int .i64 0]) := Lib.hid (Blk.new wr 3 [.int .i64 0])
        have keep : ∀ {g t : Nat} {l : List Value}, Blk wr g t l → Blk (wr.alloc (.cells #[.int .i64 0] 3)) g t l := fun h => h.alloc _
        have lx := HX.out.lt
        have la := HA.out.lt
        have ln := HN.out.lt
        have lp := HPg.out.lt
        have lz := HZ.out.lt
        have HC : Hid (Caps (wr.alloc (.cells #[.int .i64 0] 3)) wr.heap.size w.heap.size ga gn gx pages []) := Lib.hid ⟨Hgb.out, keep HPg.out, keep (by rw [atL_nil]; exact HA.out), keep HN.out, keep HX.out, by omega⟩
        have HZ1 := Lib.hid (keep HZ.out)
        have hB2 := hB.alloc hB.size (.cells #[.int .i64 0] 3)
        clear keep Hgb HX HA HN HPg HZ
        go_upto_region 13 with (fail)
        have hsz : wr.heap.size + 1 ≤ (wr.alloc (.cells #[.int .i64 0] 3)).heap.size := by simp
        have hgbw : w.heap.size ≤ wr.heap.size := hB.size
        clear hB
        generalize wr.alloc (.cells #[.int .i64 0] 3) = wo at HC HZ1 hB2 hsz ⊢
        generalize wr.heap.size = gb at *
        go_loopg [13, 38] n (fun g v i wr => ∃ (k : Nat) (es l : List Int), k ≤ n ∧ g = n - k ∧ i = .int .i64 k ∧ Hid (∃ rest, Plays pages l (ops.drop k) rest lf ∧ ES = es ++ rest) ∧ wr.ownsRow (gb + 1) 27 1 v k (es.flatMap icell) ∧ Caps wr gb w.heap.size ga gn gx pages l ∧
          Blk wr (w.heap.size + 1) 34 (zero16.flatMap icell) ∧ gb + 1 ≤ wr.heap.size ∧ Below w.heap.size w wr)
        case atStart => exact ⟨0, [], [], Nat.zero_le _, rfl, rfl, Lib.hid ⟨ES, HPL.out, rfl⟩, own_none, HC.out, HZ1.out, hsz, hB2⟩
        case round =>
          clear HC HZ1 hB2 HPL hsz wo
          obtain ⟨k, es, l, hk, rfl, rfl, HF, hown, hC, hz, hsz2, hB⟩ := hrel
          have HO := Lib.hid hown
          have HC := Lib.hid hC
          have HZ := Lib.hid hz
          clear hown hC hz
          by_cases hlt : k < n
          · obtain ⟨b, off, rfl, hb, hc⟩ := HR.out.at_ Op.len (by omega)
            obtain ⟨x, hx⟩ : ∃ x, ops[k]? = some x := ⟨_, List.getElem?_eq_getElem (by rw [HP.out]; exact hlt)⟩
            obtain ⟨c0, c1⟩ : wr.cell? ⟨b, off + k * 2, none⟩ = some (.int .i64 x.kind) ∧ wr.cell? ⟨b, off + k * 2 + 1, none⟩ = some (.int .i64 x.n) :=
              ⟨(hB.cell hb).trans (hc k 0 x _ hx rfl), (hB.cell hb).trans (hc k 1 x _ hx rfl)⟩
            obtain ⟨e, l', HW, HOK, HN⟩ : ∃ e l', Hid (Way pages l x e l') ∧ Hid (Ok pages l) ∧ Hid (∃ rest, Plays pages l' (ops.drop (k + 1)) rest lf ∧ ES = (es ++ [e]) ++ rest) := by
              obtain ⟨rest, hp, he⟩ := HF.out
              rw [drop_at hx] at hp
              cases hp with
              | cons h1 h2 h3 h4 => exact ⟨_, _, Lib.hid h1, Lib.hid h2, Lib.hid ⟨_, h4, by rw [he]; simp⟩⟩
            clear hc hx HF
            obtain ⟨xk, xn⟩ := x
            simp only at c0 c1
            have i0 : (0 : Int) ≤ (k : Int) := by omega
            have i1 : (k : Int) < (n : Int) := by omega
            go_upto_region 15 with (fail)
            have hC2 := HC.out.later ((Below.refl _ _).alloc (Nat.le_refl _) (.cells #[.int .i64 xk, .int .i64 xn] 89))
            have cS := Lib.hid (step_any gb w.heap.size ga gn gx pages l _ hC2 hpg ⟨xk, xn⟩ e l' HOK.out HW.out)
            have hO2 := HO.out.alloc (.cells #[.int .i64 xk, .int .i64 xn] 89)
            have hZ2 := HZ.out.alloc (.cells #[.int .i64 xk, .int .i64 xn] 89)
            have hB2 := hB.alloc hB.size (.cells #[.int .i64 xk, .int .i64 xn] 89)
            have hs2 : wr.heap.size + 1 ≤ (wr.alloc (.cells #[.int .i64 xk, .int .i64 xn] 89)).heap.size := by simp
            clear HC HO HZ hB hC2
            go_wp2_with (fail)
            refine cS.out.mono ?_
            rintro e1 w1 ⟨rfl, hC1, hT1⟩
            have hO3 := (hT1.own hO2 (fun q hq h => by unfold Three at h; omega)).alloc (.cells #[.int .i64 e] 27)
            have hZ3 := (hT1.blk hZ2 (fun h => by unfold Three at h; omega)).alloc (.cells #[.int .i64 e] 27)
            have hB3 := hT1.below hB2 (fun q h => by unfold Three at h; omega) hB2.size
            have hnew := Rd.of_own (own_new w1 27 #[.int .i64 e] 1 1 rfl (by simp [maxLen]) (Nat.le_refl _))
            have hs3 := hT1.size
            go_wp2_with (at_builtin; refine wpList_append_rd _ rfl (.tmp 42) (.tmp 46) 33 rfl (gb + 1) 27 ie (.int .i64 0) 1 8 Try.underlying33 hie he0 he1 he2 rfl (by omega) _ k _ rfl hO3 _ _ 1 1 _ rfl hnew (by simp [Value.oneCell']) (by simp only [maxLen]; omega) (by omega) (by simp; omega) ?_; intro v2 w2 hown2 hg2 hat2)
            have hC4 := (hC1.later ((Below.refl _ _).alloc (Nat.le_refl _) (.cells #[.int .i64 e] 27))).grown hO3 hg2 (by omega) (by omega) (by omega) (by omega) (by omega)
            have hB4 := below_grown (hB3.alloc hB3.size (.cells #[.int .i64 e] 27)) (own_mono hO3 (show w.heap.size ≤ gb + 1 by omega)) hg2 (by simp; omega)
            have hZ4 := hZ3.grown hg2 (own_far hO3 (by omega))
            have hs4 := hg2.size
            go_roundg (n - (k + 1))
            case measure => omega
            case rel => exact ⟨k + 1, es ++ [e], l', by omega, rfl, by go_num, HN, by have := hown2; simpa [List.flatMap_append, icell] using this, hC4, hZ4, by simp at hs4; omega, hB4⟩
          · obtain rfl : k = n := by omega
            have HE : Hid (ES = es ∧ lf = l) := Lib.hid (by
              obtain ⟨rest, hp, he⟩ := HF.out
              rw [List.drop_eq_nil_of_le (by rw [HP.out]; omega)] at hp
              cases hp
              exact ⟨by simpa using he, rfl⟩)
            clear HF hlt
            go_upto_region 17 with (fail)
            obtain ⟨hE1, hE2⟩ := HE.out
            obtain ⟨Av, cv, rfl⟩ := own_slice HO.out
            refine wp_region_inv (fun L a w' => ∃ x4 x6 x49 x50 x51, a = ⟨#[.int .i64 (pages : Int), .slice A k c, .pointer (some ⟨w.heap.size, 0, none⟩), undef, x4, .pointer (some ⟨w.heap.size + 1, 0, none⟩), x6, .int .i64 0, .pointer (some ⟨ga, 0, none⟩), .pointer (some ⟨gn, 0, none⟩), u10, .pointer (some ⟨gb, 0, none⟩), (.func (Fn.func 38) #[] #[.pointer (some ⟨gb, 0, none⟩), .pointer (some ⟨w.heap.size, 0, none⟩), .pointer (some ⟨ga, 0, none⟩), .pointer (some ⟨gn, 0, none⟩)]), .slice Av k cv, undef, u15, u16, u17, u18, u19, u20, u21, u22, u23, u24, u25, .slice (some ⟨gx, 0, none⟩) pages pages, .int .i64 (pages : Int), .int .i64 (pages : Int), .bool false, u30, u31, u32, u33, u34, (.func (Fn.func 38) #[] #[.pointer (some ⟨gb, 0, none⟩), .pointer (some ⟨w.heap.size, 0, none⟩), .pointer (some ⟨ga, 0, none⟩), .pointer (some ⟨gn, 0, none⟩)]), .slice A k c, .int .i64 (k : Int), .int .i64 (k : Int), .bool false, u40, u41, u42, u43, u44, u45, u46, u47, u48, x49, x50, x51], []⟩ ∧ (L 0 = true → x49 = .slice Av k cv) ∧ (L 1 = true → x50 = rowV (atL l)) ∧ (L 2 = true → x51 = .slice (some ⟨gx, 0, none⟩) pages pages) ∧ (L 3 = true → x4 = .slice Av k cv) ∧ (L 5 = true → x6 = .slice (some ⟨gx, 0, none⟩) pages pages) ∧
              Caps w' gb w.heap.size ga gn gx pages l ∧ Blk w' (w.heap.size + 1) 34 ((if L 4 = true then atL l else zero16).flatMap icell) ∧ w'.ownsRow (gb + 1) 27 1 (.slice Av k cv) k (es.flatMap icell) ∧ Below w.heap.size w w') rfl (by kernel_rfl) ⟨_, _, _, _, _, rfl, by simp, by simp, by simp, by simp, by simp, HC.out.later (Below.refl _ _).drew, HZ.out, HO.out, hB.drew⟩ ?_ ?_
            · rintro L a w' i o ⟨x4, x6, x49, x50, x51, ha, p0, p1, p2, p3, p5, hC, hZ, hO, hB'⟩ ho hi he
              dsimp only at ha
              subst ha
              have cn := hC.n.cell (k := 0) rfl
              rcases i with _|_|_|_|_|_|_|i
              all_goals cases ho
              all_goals simp [Region.binds] at he
              · refine wpOp_step rfl (fun K hK => ?_)
                go_simp
                exact hK _ _ ⟨_, _, _, _, _, rfl, fun _ => rfl, p1, p2, p3, p5, hC, hZ, hO, hB'⟩
              · refine wpOp_at rfl rfl ?_
                unfold Oper.wp
                rw [load_exec (ty := 34) (x := .tmp 8) _ _ w' (rowV (atL l)) rfl (loadAt_of (hC.a.load Try.underlying34 (size16 (atL_len l))))]
                exact ⟨_, _, _, _, _, rfl, p0, fun _ => rfl, p2, p3, p5, hC, hZ, hO, hB'⟩
              · refine wpOp_step rfl (fun K hK => ?_)
                go_simp
                exact hK _ _ ⟨_, _, _, _, _, rfl, p0, p1, fun _ => rfl, p3, p5, hC, hZ, hO, hB'⟩
              · obtain rfl := p0 (by simp [he])
                refine wpOp_step rfl (fun K hK => ?_)
                go_simp
                exact hK _ _ ⟨_, _, _, _, _, rfl, fun _ => rfl, p1, p2, fun _ => rfl, p5, hC, hZ, hO, hB'⟩
              · obtain rfl := p1 (by simp [he])
                rw [if_neg (by rw [hi]; decide)] at hZ
                refine wpOp_at rfl rfl ?_
                refine wp_store_row 34 (.tmp 5) (.tmp 50) rfl (w.heap.size + 1) ((atL l).flatMap icell).toArray rfl rfl 34 (zero16.flatMap icell).toArray hZ (size16' (atL_len l)) (same16 rfl (atL_len l)) (icell_one _) ?_
                refine ⟨_, _, _, _, _, rfl, p0, fun _ => rfl, p2, p3, p5, ⟨hC.b.rowOther (by omega) _, hC.p.rowOther (by omega) _, hC.a.rowOther (by omega) _, hC.n.rowOther (by omega) _, hC.x.rowOther (by omega) _, hC.ne⟩, hZ.row _, own_grown hO (grown_row w' (w.heap.size + 1) _) (.inr (own_far hO (by omega)).symm), below_row hB' (by omega) _⟩
              · obtain rfl := p2 (by simp [he])
                refine wpOp_step rfl (fun K hK => ?_)
                go_simp
                exact hK _ _ ⟨_, _, _, _, _, rfl, (by first | exact p0 | exact fun _ => rfl), (by first | exact p1 | exact fun _ => rfl), (by first | exact p2 | exact fun _ => rfl), (by first | exact p3 | exact fun _ => rfl), (by first | exact p5 | exact fun _ => rfl), hC, hZ, hO, hB'⟩
              · refine wpOp_step rfl (fun K hK => ?_)
                go_simp
                exact hK _ _ ⟨_, _, _, _, _, rfl, (by first | exact p0 | exact fun _ => rfl), (by first | exact p1 | exact fun _ => rfl), (by first | exact p2 | exact fun _ => rfl), (by first | exact p3 | exact fun _ => rfl), (by first | exact p5 | exact fun _ => rfl), hC, hZ, hO, hB'⟩
            · rintro L a w' ⟨x4, x6, x49, x50, x51, ha, p0, p1, p2, p3, p5, hC, hZ, hO, hB'⟩ hall
              dsimp only at ha
              subst ha
              obtain rfl := p3 (hall 3 (by decide))
              obtain rfl := p5 (hall 5 (by decide))
              rw [if_pos (hall 4 (by decide))] at hZ
              have hld := hZ.load Try.underlying34 (size16 (atL_len l))
              go_wp2
              refine bodyPost_ret (v := .tuple #[.slice Av k cv, rowV (atL l), .slice (some ⟨gx, 0, none⟩) pages pages, .int .i64 0]) ?_ rfl ?_
              · simp [results, Try.results12, asAddr, rowV, hld]
              · subst hE1 hE2
                have hln := numL_len HLF.out
                refine ⟨.slice Av k cv, some ⟨gx, 0, none⟩, pages, ?_, ?_, ?_, hB'⟩
                · show _ = Ending.returned (.tuple #[_, _, .slice _ (numL pages lf).length _, _])
                  rw [hln]
                · show w'.ownsRow w.heap.size _ 1 _ ES.length _
                  rw [HES.out, HP.out]
                  exact own_mono hO (by omega)
                · exact Blk.rd hC.x rfl
end Rmp
end Go.Proofs.Ytcndddjnlnigeaa
