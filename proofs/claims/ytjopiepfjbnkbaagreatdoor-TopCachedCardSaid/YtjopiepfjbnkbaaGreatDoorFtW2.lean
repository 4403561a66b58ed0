/-
  Walk of ftl's program, read and live. Conditions: none beyond each theorem's own premises.
-/
import Derived.Test.YtjopiepfjbnkbaaGreatDoorFtW
import Derived.Test.YtjopiepfjbnkbaaGreatDoorEq
namespace Go.Proofs.YtjopiepfjbnkbaaGreatDoor
open Go.RowKit
set_option linter.unusedVariables false
namespace Ft
open Nd (B Rt RtB)

/-- the device and all it has -/
def St (w0 w : World) (gd go ga : Nat) (fl : List B) (hd : Nat) (ow : S → Option Int) (at_ : Int → Option S) (L : List It) : Prop :=
  ∃ gf c no na, 8 ≤ c ∧ Sep w0 w (dI gd (.slice (some ⟨gf, 0, none⟩) 8 c) hd go ga :: flI (some ⟨gf, 0, none⟩) c fl :: owI go no ow :: atI ga na at_ :: L)
theorem St.mk {w0 w : World} {gd go ga c no na hd : Nat} {A : Option Addr} {fl : List B} {ow : S → Option Int} {at_ : Int → Option S} {L : List It} (H : Sep w0 w (dI gd (.slice A 8 c) hd go ga :: flI A c fl :: owI go no ow :: atI ga na at_ :: L)) (hc : 8 ≤ c) : St w0 w gd go ga fl hd ow at_ L := by
  obtain ⟨g, rfl, _, _⟩ := H.rowAt 1 rfl (by omega)
  exact ⟨g, c, no, na, hc, H⟩
theorem St.later {w0 w w' : World} {gd go ga hd : Nat} {fl : List B} {ow : S → Option Int} {at_ : Int → Option S} {L : List It} (H : St w0 w gd go ga fl hd ow at_ L) (hb : Below w.heap.size w w') : St w0 w' gd go ga fl hd ow at_ L := by
  obtain ⟨gf, c, no, na, hc, h⟩ := H
  exact ⟨gf, c, no, na, hc, h.later hb⟩
def PgRet (w0 : World) (gd go ga : Nat) (fl : List B) (hd : Nat) (ow : S → Option Int) (at_ : Int → Option S) (L : List It) (en : Ending) (w' : World) : Prop :=
  en = .returned (.tuple #[]) ∧ St w0 w' gd go ga fl hd ow at_ L
/-- how large the maps may be -/
theorem at_small {w0 w : World} {L : List It} {i ga na : Nat} {fl : List B} {ow : S → Option Int} {at_ : Int → Option S} {has : Int → Option Int} {W : Nat} (I : Inv fl ow at_ has W) (H : Sep w0 w L) (hi : L[i]? = some (atI ga na at_)) : na ≤ 16 := by
  obtain ⟨es, cl, M, _⟩ := H.mapOpen i hi
  obtain ⟨ks, h1, h2, _, h4⟩ := M.keyList kint
  rw [← h2]
  refine nodup_len 16 ks h1 fun n hn => ?_
  obtain ⟨s, hs⟩ := Option.isSome_iff_exists.1 ((h4 n).1 hn)
  obtain ⟨a, b, _⟩ := I.spot n s hs
  exact ⟨a, b⟩
theorem ow_small {w0 w : World} {L : List It} {i go no : Nat} {fl : List B} {ow : S → Option Int} {at_ : Int → Option S} {has : Int → Option Int} {W : Nat} (I : Inv fl ow at_ has W) (H : Sep w0 w L) (hi : L[i]? = some (owI go no ow)) : no ≤ 32 := by
  obtain ⟨es, cl, M, _⟩ := H.mapOpen i hi
  obtain ⟨ks, h1, h2, _, h4⟩ := M.keyList kspot
  rw [← h2, ← List.length_map (f := fun s : S => ((s.b * 4 + s.p : Nat) : Int))]
  refine nodup_len 32 _ ?_ fun n hn => ?_
  · rw [List.nodup_iff_pairwise_ne, List.pairwise_map]
    refine (List.nodup_iff_pairwise_ne.1 h1).imp_of_mem fun {a b} ha hb hab e => hab ?_
    obtain ⟨u, hu⟩ := Option.isSome_iff_exists.1 ((h4 a).1 ha)
    obtain ⟨v, hv⟩ := Option.isSome_iff_exists.1 ((h4 b).1 hb)
    have h5 := (I.own a u hu).1
    have h6 := (I.own b v hv).1
    clear hu hv
    obtain ⟨x, y⟩ := a
    obtain ⟨z, u⟩ := b
    simp only at e h5 h6
    rw [show x = z by omega, show y = u by omega]
  · obtain ⟨s, hs, rfl⟩ := List.mem_map.1 hn
    obtain ⟨u, hu⟩ := Option.isSome_iff_exists.1 ((h4 s).1 hs)
    have := (I.own s u hu).1
    omega
theorem fl_done {w0 w : World} {gd go ga gf c hd : Nat} {v : Value} {fl : List B} {x : B} {R : List It} (H : Sep w0 w (dI gd v hd go ga :: flI (some ⟨gf, 0, none⟩) c fl :: R)) {b : Nat} (hx : fl[b]? = some x) : w.cell? ⟨gf, b * 6 + 4, none⟩ = some (.int .i64 x.done) := by
  obtain ⟨g, e, _, h⟩ := H.rowAt 1 rfl (by omega)
  cases e
  exact (h _).1 _ ((flat_get Nd.B.len fl b 4 x hx (by omega)).trans rfl)

set_option maxRecDepth 100000 in
set_option maxHeartbeats 6400000 in
theorem program_any (gd go ga hd n p W : Nat) (d : Int) (x : B) (fl : List B) (ow : S → Option Int) (at_ : Int → Option S) (has : Int → Option Int) (R : List It) (w0 w : World) (hs : St w0 w gd go ga fl hd ow at_ R) (I : Inv fl ow at_ has W) (hh : hd < 8) (hx : fl[hd]? = some x) (hp : p < 4) (hd' : x.done = (p : Int)) (hn : n < 16) :
    Calls Tryz.prog 66 #[.pointer (some ⟨gd, 0, none⟩), .int .i64 (n : Int), .int .i64 d] w (PgRet w0 gd go ga (fl.set hd (x.put d p)) hd (mup ow ⟨hd, p⟩ (n : Int)) (mup at_ (n : Int) ⟨hd, p⟩) R) := by
  obtain ⟨gf, c, no, na, hc, hs⟩ := hs
  have HS := Lib.hid hs
  have HRT := Lib.hid I.rt
  have HWAY : Hid (Nd.Way fl ⟨1, (hd : Int), (p : Int), d⟩ (fl.set hd (x.put d p)) 0 0) := Lib.hid (.prog hx hp hd')
  have HLO : Hid ((fl.set hd (x.put d p)).length = 8) := Lib.hid (by rw [List.length_set]; exact I.rt.1)
  have HFC : Hid (∀ W' R', Sep w0 W' (dI gd (.slice (some ⟨gf, 0, none⟩) 8 c) hd go ga :: flI (some ⟨gf, 0, none⟩) c fl :: R') → W'.cell? ⟨gf, hd * 6 + 4, none⟩ = some (.int .i64 (p : Int))) := Lib.hid (fun W' R' H => by rw [← hd']; exact fl_done H hx)
  have HSO : Hid (SOk ⟨hd, p⟩) := Lib.hid ⟨hh, hp⟩
  have HNO : Hid (no < maxLen) := Lib.hid (by have := ow_small I hs (i := 2) rfl; simp only [maxLen]; omega)
  have HNA : Hid (na < maxLen) := Lib.hid (by have := at_small I hs (i := 3) rfl; simp only [maxLen]; omega)
  have HNW : Hid ((Lit.int .i64 (n : Int)).wf = true) := Lib.hid (wf_small (by omega) (by omega))
  have j0 : (0 : Int) ≤ (hd : Int) := by omega
  have j1 : (hd : Int) < 8 := by omega
  clear hs I hx hd' hn
  go_enter Tryz.func66, Tryz.ntmps66
  go_upto_region 0 with (fail)
  refine wp_region_inv0 (fun ac0 L ac w' => ∃ x6 x7 x8 x9 x10 x11 x12 x13 x14 x15 x16 x17 x18 x19 x20 x21 x22, ac = turn ac0 [(6, x6), (7, x7), (8, x8), (9, x9), (10, x10), (11, x11), (12, x12), (13, x13), (14, x14), (15, x15), (16, x16), (17, x17), (18, x18), (19, x19), (20, x20), (21, x21), (22, x22)] ∧ (L 0 = true → x7 = .pointer (some ⟨gd, 0, none⟩)) ∧ (L 1 = true → x8 = .pointer (some ⟨gd, 0, none⟩)) ∧ (L 2 = true → x9 = .pointer (some ⟨gd, 1, none⟩)) ∧ (L 3 = true → x10 = .int .i64 (hd : Int)) ∧ (L 4 = true → x11 = .pointer (some ⟨gd, 0, none⟩)) ∧ (L 5 = true → x12 = .pointer (some ⟨gd, 0, none⟩)) ∧ (L 6 = true → x13 = .pointer (some ⟨gd, 0, none⟩)) ∧ (L 7 = true → x14 = .slice (some ⟨gf, 0, none⟩) 8 c) ∧ (L 8 = true → x15 = .pointer (some ⟨gd, 0, none⟩)) ∧ (L 9 = true → x16 = .pointer (some ⟨gd, 0, none⟩)) ∧ (L 10 = true → x17 = .pointer (some ⟨gd, 1, none⟩)) ∧ (L 11 = true → x18 = .int .i64 (hd : Int)) ∧ (L 12 = true → x19 = .pointer (some ⟨gf, hd * 6, none⟩)) ∧ (L 13 = true → x20 = .pointer (some ⟨gf, hd * 6 + 4, none⟩)) ∧ (L 14 = true → x21 = .int .i64 (p : Int)) ∧ (L 15 = true → x22 = .agg #[.int .i64 (hd : Int), .int .i64 (p : Int)]) ∧ (L 1 = true → L 0 = true) ∧ (L 2 = true → L 1 = true) ∧ (L 3 = true → L 2 = true) ∧ (L 5 = true → L 4 = true) ∧ (L 6 = true → L 5 = true) ∧ (L 7 = true → L 6 = true) ∧ (L 9 = true → L 8 = true) ∧ (L 10 = true → L 9 = true) ∧ (L 11 = true → L 10 = true) ∧ (L 12 = true → L 7 = true ∧ L 11 = true) ∧ (L 13 = true → L 12 = true) ∧ (L 14 = true → L 13 = true) ∧ (L 15 = true → L 3 = true ∧ L 14 = true) ∧ (L 17 = true → L 0 = true ∧ L 1 = true ∧ L 2 = true ∧ L 3 = true ∧ L 4 = true ∧ L 5 = true ∧ L 6 = true ∧ L 7 = true ∧ L 8 = true ∧ L 9 = true ∧ L 10 = true ∧ L 11 = true ∧ L 12 = true ∧ L 13 = true ∧ L 14 = true ∧ L 15 = true ∧ L 16 = true) ∧ (if L 17 = true then (∃ gs, x6 = .pointer (some ⟨gs, 0, none⟩) ∧ Sep w0 w' (dI gd (.slice (some ⟨gf, 0, none⟩) 8 c) hd go ga :: flI (some ⟨gf, 0, none⟩) c fl :: .cells gs 136 [.int .i64 (hd : Int), .int .i64 (p : Int)] :: owI go no ow :: atI ga na at_ :: R)) else (if L 16 = true then (∃ gs, x6 = .pointer (some ⟨gs, 0, none⟩) ∧ Sep w0 w' (dI gd (.slice (some ⟨gf, 0, none⟩) 8 c) hd go ga :: flI (some ⟨gf, 0, none⟩) c fl :: .cells gs 136 [.int .i64 0, .int .i64 0] :: owI go no ow :: atI ga na at_ :: R)) else Sep w0 w' (dI gd (.slice (some ⟨gf, 0, none⟩) 8 c) hd go ga :: flI (some ⟨gf, 0, none⟩) c fl :: owI go no ow :: atI ga na at_ :: R)))) rfl (by kernel_rfl) ?_ ?_ ?_
  · simp only [turn, List.foldl_cons, List.foldl_nil, List.setIfInBounds_toArray, List.set_cons_succ, List.set_cons_zero]
    exact ⟨_, _, _, _, _, _, _, _, _, _, _, _, _, _, _, _, _, rfl, (fun h => absurd h (by decide)), (fun h => absurd h (by decide)), (fun h => absurd h (by decide)), (fun h => absurd h (by decide)), (fun h => absurd h (by decide)), (fun h => absurd h (by decide)), (fun h => absurd h (by decide)), (fun h => absurd h (by decide)), (fun h => absurd h (by decide)), (fun h => absurd h (by decide)), (fun h => absurd h (by decide)), (fun h => absurd h (by decide)), (fun h => absurd h (by decide)), (fun h => absurd h (by decide)), (fun h => absurd h (by decide)), (fun h => absurd h (by decide)), (fun h => absurd h (by decide)), (fun h => absurd h (by decide)), (fun h => absurd h (by decide)), (fun h => absurd h (by decide)), (fun h => absurd h (by decide)), (fun h => absurd h (by decide)), (fun h => absurd h (by decide)), (fun h => absurd h (by decide)), (fun h => absurd h (by decide)), (fun h => absurd h (by decide)), (fun h => absurd h (by decide)), (fun h => absurd h (by decide)), (fun h => absurd h (by decide)), (fun h => absurd h (by decide)), by simpa using HS.out.drew⟩
  · rintro L ac w' i o ⟨x6, x7, x8, x9, x10, x11, x12, x13, x14, x15, x16, x17, x18, x19, x20, x21, x22, ha, p0, p1, p2, p3, p4, p5, p6, p7, p8, p9, p10, p11, p12, p13, p14, p15, q1, q2, q3, q5, q6, q7, q9, q10, q11, q12, q13, q14, q15, q17, hS⟩ ho hi he
    simp only [turn, List.foldl_cons, List.foldl_nil, List.setIfInBounds_toArray, List.set_cons_succ, List.set_cons_zero] at ha ⊢
    subst ha
    rcases i with _|_|_|_|_|_|_|_|_|_|_|_|_|_|_|_|_|_|i
    all_goals cases ho
    all_goals simp [Region.binds] at he
    · have h1 : L 1 = false := by cases hh : L 1 with | false => rfl | true => (have hq := q1 hh; simp [hi] at hq)
      have h17 : L 17 = false := by cases hh : L 17 with | false => rfl | true => (have hq := q17 hh; simp [hi] at hq)
      have h2 : L 2 = false := by cases hh : L 2 with | false => rfl | true => (have hq := q2 hh; simp [h1] at hq)
      have h3 : L 3 = false := by cases hh : L 3 with | false => rfl | true => (have hq := q3 hh; simp [h2] at hq)
      have h15 : L 15 = false := by cases hh : L 15 with | false => rfl | true => (have hq := q15 hh; simp [h3] at hq)
      refine wpOp_step rfl (fun K hK => ?_)
      go_simp
      exact hK _ _ ⟨_, _, _, _, _, _, _, _, _, _, _, _, _, _, _, _, _, rfl, (fun _ => rfl), (by simp [h1]), (by simp [h2]), (by simp [h3]), (by first | exact p4 | exact fun _ => rfl), (by first | exact p5 | exact fun _ => rfl), (by first | exact p6 | exact fun _ => rfl), (by first | exact p7 | exact fun _ => rfl), (by first | exact p8 | exact fun _ => rfl), (by first | exact p9 | exact fun _ => rfl), (by first | exact p10 | exact fun _ => rfl), (by first | exact p11 | exact fun _ => rfl), (by first | exact p12 | exact fun _ => rfl), (by first | exact p13 | exact fun _ => rfl), (by first | exact p14 | exact fun _ => rfl), (by simp [h15]), (by simp [h1]), (by simp [h2]), (by simp [h3]), (by simpa using q5), (by simpa using q6), (by simpa using q7), (by simpa using q9), (by simpa using q10), (by simpa using q11), (by simpa using q12), (by simpa using q13), (by simpa using q14), (by simp [h15]), (by simp [h17]), (by simpa [h1, h17, h2, h3, h15] using hS)⟩
    · have h2 : L 2 = false := by cases hh : L 2 with | false => rfl | true => (have hq := q2 hh; simp [hi] at hq)
      have h17 : L 17 = false := by cases hh : L 17 with | false => rfl | true => (have hq := q17 hh; simp [hi] at hq)
      have h3 : L 3 = false := by cases hh : L 3 with | false => rfl | true => (have hq := q3 hh; simp [h2] at hq)
      have h15 : L 15 = false := by cases hh : L 15 with | false => rfl | true => (have hq := q15 hh; simp [h3] at hq)
      obtain rfl := p0 (by simp [he])
      refine wpOp_step rfl (fun K hK => ?_)
      go_simp
      exact hK _ _ ⟨_, _, _, _, _, _, _, _, _, _, _, _, _, _, _, _, _, rfl, (by first | exact p0 | exact fun _ => rfl), (fun _ => rfl), (by simp [h2]), (by simp [h3]), (by first | exact p4 | exact fun _ => rfl), (by first | exact p5 | exact fun _ => rfl), (by first | exact p6 | exact fun _ => rfl), (by first | exact p7 | exact fun _ => rfl), (by first | exact p8 | exact fun _ => rfl), (by first | exact p9 | exact fun _ => rfl), (by first | exact p10 | exact fun _ => rfl), (by first | exact p11 | exact fun _ => rfl), (by first | exact p12 | exact fun _ => rfl), (by first | exact p13 | exact fun _ => rfl), (by first | exact p14 | exact fun _ => rfl), (by simp [h15]), (by simp [he]), (by simp [h2]), (by simp [h3]), (by simpa using q5), (by simpa using q6), (by simpa using q7), (by simpa using q9), (by simpa using q10), (by simpa using q11), (by simpa using q12), (by simpa using q13), (by simpa using q14), (by simp [h15]), (by simp [h17]), (by simpa [h2, h17, h3, h15] using hS)⟩
    · have h3 : L 3 = false := by cases hh : L 3 with | false => rfl | true => (have hq := q3 hh; simp [hi] at hq)
      have h17 : L 17 = false := by cases hh : L 17 with | false => rfl | true => (have hq := q17 hh; simp [hi] at hq)
      have h15 : L 15 = false := by cases hh : L 15 with | false => rfl | true => (have hq := q15 hh; simp [h3] at hq)
      obtain rfl := p1 (by simp [he])
      refine wpOp_step rfl (fun K hK => ?_)
      go_simp
      exact hK _ _ ⟨_, _, _, _, _, _, _, _, _, _, _, _, _, _, _, _, _, rfl, (by first | exact p0 | exact fun _ => rfl), (by first | exact p1 | exact fun _ => rfl), (fun _ => rfl), (by simp [h3]), (by first | exact p4 | exact fun _ => rfl), (by first | exact p5 | exact fun _ => rfl), (by first | exact p6 | exact fun _ => rfl), (by first | exact p7 | exact fun _ => rfl), (by first | exact p8 | exact fun _ => rfl), (by first | exact p9 | exact fun _ => rfl), (by first | exact p10 | exact fun _ => rfl), (by first | exact p11 | exact fun _ => rfl), (by first | exact p12 | exact fun _ => rfl), (by first | exact p13 | exact fun _ => rfl), (by first | exact p14 | exact fun _ => rfl), (by simp [h15]), (by simpa using q1), (by simp [he]), (by simp [h3]), (by simpa using q5), (by simpa using q6), (by simpa using q7), (by simpa using q9), (by simpa using q10), (by simpa using q11), (by simpa using q12), (by simpa using q13), (by simpa using q14), (by simp [h15]), (by simp [h17]), (by simpa [h3, h17, h15] using hS)⟩
    · have h15 : L 15 = false := by cases hh : L 15 with | false => rfl | true => (have hq := q15 hh; simp [hi] at hq)
      have h17 : L 17 = false := by cases hh : L 17 with | false => rfl | true => (have hq := q17 hh; simp [hi] at hq)
      obtain rfl := p2 (by simp [he])
      have f0 : w'.cell? ⟨gd, 1, none⟩ = some (.int .i64 (hd : Int)) := by
        rw [if_neg (by simp [h17])] at hS
        split at hS
        · obtain ⟨gs, _, S⟩ := hS
          exact S.cell 0 rfl rfl
        · exact hS.cell 0 rfl rfl
      refine wpOp_step rfl (fun K hK => ?_)
      go_simp
      exact hK _ _ ⟨_, _, _, _, _, _, _, _, _, _, _, _, _, _, _, _, _, rfl, (by first | exact p0 | exact fun _ => rfl), (by first | exact p1 | exact fun _ => rfl), (by first | exact p2 | exact fun _ => rfl), (fun _ => rfl), (by first | exact p4 | exact fun _ => rfl), (by first | exact p5 | exact fun _ => rfl), (by first | exact p6 | exact fun _ => rfl), (by first | exact p7 | exact fun _ => rfl), (by first | exact p8 | exact fun _ => rfl), (by first | exact p9 | exact fun _ => rfl), (by first | exact p10 | exact fun _ => rfl), (by first | exact p11 | exact fun _ => rfl), (by first | exact p12 | exact fun _ => rfl), (by first | exact p13 | exact fun _ => rfl), (by first | exact p14 | exact fun _ => rfl), (by simp [h15]), (by simpa using q1), (by simpa using q2), (by simp [he]), (by simpa using q5), (by simpa using q6), (by simpa using q7), (by simpa using q9), (by simpa using q10), (by simpa using q11), (by simpa using q12), (by simpa using q13), (by simpa using q14), (by simp [h15]), (by simp [h17]), (by simpa [h15, h17] using hS)⟩
    · have h5 : L 5 = false := by cases hh : L 5 with | false => rfl | true => (have hq := q5 hh; simp [hi] at hq)
      have h17 : L 17 = false := by cases hh : L 17 with | false => rfl | true => (have hq := q17 hh; simp [hi] at hq)
      have h6 : L 6 = false := by cases hh : L 6 with | false => rfl | true => (have hq := q6 hh; simp [h5] at hq)
      have h7 : L 7 = false := by cases hh : L 7 with | false => rfl | true => (have hq := q7 hh; simp [h6] at hq)
      have h12 : L 12 = false := by cases hh : L 12 with | false => rfl | true => (have hq := q12 hh; simp [h7] at hq)
      have h13 : L 13 = false := by cases hh : L 13 with | false => rfl | true => (have hq := q13 hh; simp [h12] at hq)
      have h14 : L 14 = false := by cases hh : L 14 with | false => rfl | true => (have hq := q14 hh; simp [h13] at hq)
      have h15 : L 15 = false := by cases hh : L 15 with | false => rfl | true => (have hq := q15 hh; simp [h14] at hq)
      refine wpOp_step rfl (fun K hK => ?_)
      go_simp
      exact hK _ _ ⟨_, _, _, _, _, _, _, _, _, _, _, _, _, _, _, _, _, rfl, (by first | exact p0 | exact fun _ => rfl), (by first | exact p1 | exact fun _ => rfl), (by first | exact p2 | exact fun _ => rfl), (by first | exact p3 | exact fun _ => rfl), (fun _ => rfl), (by simp [h5]), (by simp [h6]), (by simp [h7]), (by first | exact p8 | exact fun _ => rfl), (by first | exact p9 | exact fun _ => rfl), (by first | exact p10 | exact fun _ => rfl), (by first | exact p11 | exact fun _ => rfl), (by simp [h12]), (by simp [h13]), (by simp [h14]), (by simp [h15]), (by simpa using q1), (by simpa using q2), (by simpa using q3), (by simp [h5]), (by simp [h6]), (by simp [h7]), (by simpa using q9), (by simpa using q10), (by simpa using q11), (by simp [h12]), (by simp [h13]), (by simp [h14]), (by simp [h15]), (by simp [h17]), (by simpa [h5, h17, h6, h7, h12, h13, h14, h15] using hS)⟩
    · have h6 : L 6 = false := by cases hh : L 6 with | false => rfl | true => (have hq := q6 hh; simp [hi] at hq)
      have h17 : L 17 = false := by cases hh : L 17 with | false => rfl | true => (have hq := q17 hh; simp [hi] at hq)
      have h7 : L 7 = false := by cases hh : L 7 with | false => rfl | true => (have hq := q7 hh; simp [h6] at hq)
      have h12 : L 12 = false := by cases hh : L 12 with | false => rfl | true => (have hq := q12 hh; simp [h7] at hq)
      have h13 : L 13 = false := by cases hh : L 13 with | false => rfl | true => (have hq := q13 hh; simp [h12] at hq)
      have h14 : L 14 = false := by cases hh : L 14 with | false => rfl | true => (have hq := q14 hh; simp [h13] at hq)
      have h15 : L 15 = false := by cases hh : L 15 with | false => rfl | true => (have hq := q15 hh; simp [h14] at hq)
      obtain rfl := p4 (by simp [he])
      refine wpOp_step rfl (fun K hK => ?_)
      go_simp
      exact hK _ _ ⟨_, _, _, _, _, _, _, _, _, _, _, _, _, _, _, _, _, rfl, (by first | exact p0 | exact fun _ => rfl), (by first | exact p1 | exact fun _ => rfl), (by first | exact p2 | exact fun _ => rfl), (by first | exact p3 | exact fun _ => rfl), (by first | exact p4 | exact fun _ => rfl), (fun _ => rfl), (by simp [h6]), (by simp [h7]), (by first | exact p8 | exact fun _ => rfl), (by first | exact p9 | exact fun _ => rfl), (by first | exact p10 | exact fun _ => rfl), (by first | exact p11 | exact fun _ => rfl), (by simp [h12]), (by simp [h13]), (by simp [h14]), (by simp [h15]), (by simpa using q1), (by simpa using q2), (by simpa using q3), (by simp [he]), (by simp [h6]), (by simp [h7]), (by simpa using q9), (by simpa using q10), (by simpa using q11), (by simp [h12]), (by simp [h13]), (by simp [h14]), (by simp [h15]), (by simp [h17]), (by simpa [h6, h17, h7, h12, h13, h14, h15] using hS)⟩
    · have h7 : L 7 = false := by cases hh : L 7 with | false => rfl | true => (have hq := q7 hh; simp [hi] at hq)
      have h17 : L 17 = false := by cases hh : L 17 with | false => rfl | true => (have hq := q17 hh; simp [hi] at hq)
      have h12 : L 12 = false := by cases hh : L 12 with | false => rfl | true => (have hq := q12 hh; simp [h7] at hq)
      have h13 : L 13 = false := by cases hh : L 13 with | false => rfl | true => (have hq := q13 hh; simp [h12] at hq)
      have h14 : L 14 = false := by cases hh : L 14 with | false => rfl | true => (have hq := q14 hh; simp [h13] at hq)
      have h15 : L 15 = false := by cases hh : L 15 with | false => rfl | true => (have hq := q15 hh; simp [h14] at hq)
      obtain rfl := p5 (by simp [he])
      refine wpOp_step rfl (fun K hK => ?_)
      go_simp
      exact hK _ _ ⟨_, _, _, _, _, _, _, _, _, _, _, _, _, _, _, _, _, rfl, (by first | exact p0 | exact fun _ => rfl), (by first | exact p1 | exact fun _ => rfl), (by first | exact p2 | exact fun _ => rfl), (by first | exact p3 | exact fun _ => rfl), (by first | exact p4 | exact fun _ => rfl), (by first | exact p5 | exact fun _ => rfl), (fun _ => rfl), (by simp [h7]), (by first | exact p8 | exact fun _ => rfl), (by first | exact p9 | exact fun _ => rfl), (by first | exact p10 | exact fun _ => rfl), (by first | exact p11 | exact fun _ => rfl), (by simp [h12]), (by simp [h13]), (by simp [h14]), (by simp [h15]), (by simpa using q1), (by simpa using q2), (by simpa using q3), (by simpa using q5), (by simp [he]), (by simp [h7]), (by simpa using q9), (by simpa using q10), (by simpa using q11), (by simp [h12]), (by simp [h13]), (by simp [h14]), (by simp [h15]), (by simp [h17]), (by simpa [h7, h17, h12, h13, h14, h15] using hS)⟩
    · have h12 : L 12 = false := by cases hh : L 12 with | false => rfl | true => (have hq := q12 hh; simp [hi] at hq)
      have h17 : L 17 = false := by cases hh : L 17 with | false => rfl | true => (have hq := q17 hh; simp [hi] at hq)
      have h13 : L 13 = false := by cases hh : L 13 with | false => rfl | true => (have hq := q13 hh; simp [h12] at hq)
      have h14 : L 14 = false := by cases hh : L 14 with | false => rfl | true => (have hq := q14 hh; simp [h13] at hq)
      have h15 : L 15 = false := by cases hh : L 15 with | false => rfl | true => (have hq := q15 hh; simp [h14] at hq)
      obtain rfl := p6 (by simp [he])
      have f0 : w'.cell? ⟨gd, 0, none⟩ = some (.slice (some ⟨gf, 0, none⟩) 8 c) := by
        rw [if_neg (by simp [h17])] at hS
        split at hS
        · obtain ⟨gs, _, S⟩ := hS
          exact S.cell 0 rfl rfl
        · exact hS.cell 0 rfl rfl
      refine wpOp_step rfl (fun K hK => ?_)
      go_simp
      exact hK _ _ ⟨_, _, _, _, _, _, _, _, _, _, _, _, _, _, _, _, _, rfl, (by first | exact p0 | exact fun _ => rfl), (by first | exact p1 | exact fun _ => rfl), (by first | exact p2 | exact fun _ => rfl), (by first | exact p3 | exact fun _ => rfl), (by first | exact p4 | exact fun _ => rfl), (by first | exact p5 | exact fun _ => rfl), (by first | exact p6 | exact fun _ => rfl), (fun _ => rfl), (by first | exact p8 | exact fun _ => rfl), (by first | exact p9 | exact fun _ => rfl), (by first | exact p10 | exact fun _ => rfl), (by first | exact p11 | exact fun _ => rfl), (by simp [h12]), (by simp [h13]), (by simp [h14]), (by simp [h15]), (by simpa using q1), (by simpa using q2), (by simpa using q3), (by simpa using q5), (by simpa using q6), (by simp [he]), (by simpa using q9), (by simpa using q10), (by simpa using q11), (by simp [h12]), (by simp [h13]), (by simp [h14]), (by simp [h15]), (by simp [h17]), (by simpa [h12, h17, h13, h14, h15] using hS)⟩
    · have h9 : L 9 = false := by cases hh : L 9 with | false => rfl | true => (have hq := q9 hh; simp [hi] at hq)
      have h17 : L 17 = false := by cases hh : L 17 with | false => rfl | true => (have hq := q17 hh; simp [hi] at hq)
      have h10 : L 10 = false := by cases hh : L 10 with | false => rfl | true => (have hq := q10 hh; simp [h9] at hq)
      have h11 : L 11 = false := by cases hh : L 11 with | false => rfl | true => (have hq := q11 hh; simp [h10] at hq)
      have h12 : L 12 = false := by cases hh : L 12 with | false => rfl | true => (have hq := q12 hh; simp [h11] at hq)
      have h13 : L 13 = false := by cases hh : L 13 with | false => rfl | true => (have hq := q13 hh; simp [h12] at hq)
      have h14 : L 14 = false := by cases hh : L 14 with | false => rfl | true => (have hq := q14 hh; simp [h13] at hq)
      have h15 : L 15 = false := by cases hh : L 15 with | false => rfl | true => (have hq := q15 hh; simp [h14] at hq)
      refine wpOp_step rfl (fun K hK => ?_)
      go_simp
      exact hK _ _ ⟨_, _, _, _, _, _, _, _, _, _, _, _, _, _, _, _, _, rfl, (by first | exact p0 | exact fun _ => rfl), (by first | exact p1 | exact fun _ => rfl), (by first | exact p2 | exact fun _ => rfl), (by first | exact p3 | exact fun _ => rfl), (by first | exact p4 | exact fun _ => rfl), (by first | exact p5 | exact fun _ => rfl), (by first | exact p6 | exact fun _ => rfl), (by first | exact p7 | exact fun _ => rfl), (fun _ => rfl), (by simp [h9]), (by simp [h10]), (by simp [h11]), (by simp [h12]), (by simp [h13]), (by simp [h14]), (by simp [h15]), (by simpa using q1), (by simpa using q2), (by simpa using q3), (by simpa using q5), (by simpa using q6), (by simpa using q7), (by simp [h9]), (by simp [h10]), (by simp [h11]), (by simp [h12]), (by simp [h13]), (by simp [h14]), (by simp [h15]), (by simp [h17]), (by simpa [h9, h17, h10, h11, h12, h13, h14, h15] using hS)⟩
    · have h10 : L 10 = false := by cases hh : L 10 with | false => rfl | true => (have hq := q10 hh; simp [hi] at hq)
      have h17 : L 17 = false := by cases hh : L 17 with | false => rfl | true => (have hq := q17 hh; simp [hi] at hq)
      have h11 : L 11 = false := by cases hh : L 11 with | false => rfl | true => (have hq := q11 hh; simp [h10] at hq)
      have h12 : L 12 = false := by cases hh : L 12 with | false => rfl | true => (have hq := q12 hh; simp [h11] at hq)
      have h13 : L 13 = false := by cases hh : L 13 with | false => rfl | true => (have hq := q13 hh; simp [h12] at hq)
      have h14 : L 14 = false := by cases hh : L 14 with | false => rfl | true => (have hq := q14 hh; simp [h13] at hq)
      have h15 : L 15 = false := by cases hh : L 15 with | false => rfl | true => (have hq := q15 hh; simp [h14] at hq)
      obtain rfl := p8 (by simp [he])
      refine wpOp_step rfl (fun K hK => ?_)
      go_simp
      exact hK _ _ ⟨_, _, _, _, _, _, _, _, _, _, _, _, _, _, _, _, _, rfl, (by first | exact p0 | exact fun _ => rfl), (by first | exact p1 | exact fun _ => rfl), (by first | exact p2 | exact fun _ => rfl), (by first | exact p3 | exact fun _ => rfl), (by first | exact p4 | exact fun _ => rfl), (by first | exact p5 | exact fun _ => rfl), (by first | exact p6 | exact fun _ => rfl), (by first | exact p7 | exact fun _ => rfl), (by first | exact p8 | exact fun _ => rfl), (fun _ => rfl), (by simp [h10]), (by simp [h11]), (by simp [h12]), (by simp [h13]), (by simp [h14]), (by simp [h15]), (by simpa using q1), (by simpa using q2), (by simpa using q3), (by simpa using q5), (by simpa using q6), (by simpa using q7), (by simp [he]), (by simp [h10]), (by simp [h11]), (by simp [h12]), (by simp [h13]), (by simp [h14]), (by simp [h15]), (by simp [h17]), (by simpa [h10, h17, h11, h12, h13, h14, h15] using hS)⟩
    · have h11 : L 11 = false := by cases hh : L 11 with | false => rfl | true => (have hq := q11 hh; simp [hi] at hq)
      have h17 : L 17 = false := by cases hh : L 17 with | false => rfl | true => (have hq := q17 hh; simp [hi] at hq)
      have h12 : L 12 = false := by cases hh : L 12 with | false => rfl | true => (have hq := q12 hh; simp [h11] at hq)
      have h13 : L 13 = false := by cases hh : L 13 with | false => rfl | true => (have hq := q13 hh; simp [h12] at hq)
      have h14 : L 14 = false := by cases hh : L 14 with | false => rfl | true => (have hq := q14 hh; simp [h13] at hq)
      have h15 : L 15 = false := by cases hh : L 15 with | false => rfl | true => (have hq := q15 hh; simp [h14] at hq)
      obtain rfl := p9 (by simp [he])
      refine wpOp_step rfl (fun K hK => ?_)
      go_simp
      exact hK _ _ ⟨_, _, _, _, _, _, _, _, _, _, _, _, _, _, _, _, _, rfl, (by first | exact p0 | exact fun _ => rfl), (by first | exact p1 | exact fun _ => rfl), (by first | exact p2 | exact fun _ => rfl), (by first | exact p3 | exact fun _ => rfl), (by first | exact p4 | exact fun _ => rfl), (by first | exact p5 | exact fun _ => rfl), (by first | exact p6 | exact fun _ => rfl), (by first | exact p7 | exact fun _ => rfl), (by first | exact p8 | exact fun _ => rfl), (by first | exact p9 | exact fun _ => rfl), (fun _ => rfl), (by simp [h11]), (by simp [h12]), (by simp [h13]), (by simp [h14]), (by simp [h15]), (by simpa using q1), (by simpa using q2), (by simpa using q3), (by simpa using q5), (by simpa using q6), (by simpa using q7), (by simpa using q9), (by simp [he]), (by simp [h11]), (by simp [h12]), (by simp [h13]), (by simp [h14]), (by simp [h15]), (by simp [h17]), (by simpa [h11, h17, h12, h13, h14, h15] using hS)⟩
    · have h12 : L 12 = false := by cases hh : L 12 with | false => rfl | true => (have hq := q12 hh; simp [hi] at hq)
      have h17 : L 17 = false := by cases hh : L 17 with | false => rfl | true => (have hq := q17 hh; simp [hi] at hq)
      have h13 : L 13 = false := by cases hh : L 13 with | false => rfl | true => (have hq := q13 hh; simp [h12] at hq)
      have h14 : L 14 = false := by cases hh : L 14 with | false => rfl | true => (have hq := q14 hh; simp [h13] at hq)
      have h15 : L 15 = false := by cases hh : L 15 with | false => rfl | true => (have hq := q15 hh; simp [h14] at hq)
      obtain rfl := p10 (by simp [he])
      have f0 : w'.cell? ⟨gd, 1, none⟩ = some (.int .i64 (hd : Int)) := by
        rw [if_neg (by simp [h17])] at hS
        split at hS
        · obtain ⟨gs, _, S⟩ := hS
          exact S.cell 0 rfl rfl
        · exact hS.cell 0 rfl rfl
      refine wpOp_step rfl (fun K hK => ?_)
      go_simp
      exact hK _ _ ⟨_, _, _, _, _, _, _, _, _, _, _, _, _, _, _, _, _, rfl, (by first | exact p0 | exact fun _ => rfl), (by first | exact p1 | exact fun _ => rfl), (by first | exact p2 | exact fun _ => rfl), (by first | exact p3 | exact fun _ => rfl), (by first | exact p4 | exact fun _ => rfl), (by first | exact p5 | exact fun _ => rfl), (by first | exact p6 | exact fun _ => rfl), (by first | exact p7 | exact fun _ => rfl), (by first | exact p8 | exact fun _ => rfl), (by first | exact p9 | exact fun _ => rfl), (by first | exact p10 | exact fun _ => rfl), (fun _ => rfl), (by simp [h12]), (by simp [h13]), (by simp [h14]), (by simp [h15]), (by simpa using q1), (by simpa using q2), (by simpa using q3), (by simpa using q5), (by simpa using q6), (by simpa using q7), (by simpa using q9), (by simpa using q10), (by simp [he]), (by simp [h12]), (by simp [h13]), (by simp [h14]), (by simp [h15]), (by simp [h17]), (by simpa [h12, h17, h13, h14, h15] using hS)⟩
    · have h13 : L 13 = false := by cases hh : L 13 with | false => rfl | true => (have hq := q13 hh; simp [hi] at hq)
      have h17 : L 17 = false := by cases hh : L 17 with | false => rfl | true => (have hq := q17 hh; simp [hi] at hq)
      have h14 : L 14 = false := by cases hh : L 14 with | false => rfl | true => (have hq := q14 hh; simp [h13] at hq)
      have h15 : L 15 = false := by cases hh : L 15 with | false => rfl | true => (have hq := q15 hh; simp [h14] at hq)
      obtain rfl := p7 (by simp [he])
      obtain rfl := p11 (by simp [he])
      refine wpOp_step rfl (fun K hK => ?_)
      go_simp
      exact hK _ _ ⟨_, _, _, _, _, _, _, _, _, _, _, _, _, _, _, _, _, rfl, (by first | exact p0 | exact fun _ => rfl), (by first | exact p1 | exact fun _ => rfl), (by first | exact p2 | exact fun _ => rfl), (by first | exact p3 | exact fun _ => rfl), (by first | exact p4 | exact fun _ => rfl), (by first | exact p5 | exact fun _ => rfl), (by first | exact p6 | exact fun _ => rfl), (by first | exact p7 | exact fun _ => rfl), (by first | exact p8 | exact fun _ => rfl), (by first | exact p9 | exact fun _ => rfl), (by first | exact p10 | exact fun _ => rfl), (by first | exact p11 | exact fun _ => rfl), (fun _ => rfl), (by simp [h13]), (by simp [h14]), (by simp [h15]), (by simpa using q1), (by simpa using q2), (by simpa using q3), (by simpa using q5), (by simpa using q6), (by simpa using q7), (by simpa using q9), (by simpa using q10), (by simpa using q11), (by simp [he]), (by simp [h13]), (by simp [h14]), (by simp [h15]), (by simp [h17]), (by simpa [h13, h17, h14, h15] using hS)⟩
    · have h14 : L 14 = false := by cases hh : L 14 with | false => rfl | true => (have hq := q14 hh; simp [hi] at hq)
      have h17 : L 17 = false := by cases hh : L 17 with | false => rfl | true => (have hq := q17 hh; simp [hi] at hq)
      have h15 : L 15 = false := by cases hh : L 15 with | false => rfl | true => (have hq := q15 hh; simp [h14] at hq)
      obtain rfl := p12 (by simp [he])
      refine wpOp_step rfl (fun K hK => ?_)
      go_simp
      exact hK _ _ ⟨_, _, _, _, _, _, _, _, _, _, _, _, _, _, _, _, _, rfl, (by first | exact p0 | exact fun _ => rfl), (by first | exact p1 | exact fun _ => rfl), (by first | exact p2 | exact fun _ => rfl), (by first | exact p3 | exact fun _ => rfl), (by first | exact p4 | exact fun _ => rfl), (by first | exact p5 | exact fun _ => rfl), (by first | exact p6 | exact fun _ => rfl), (by first | exact p7 | exact fun _ => rfl), (by first | exact p8 | exact fun _ => rfl), (by first | exact p9 | exact fun _ => rfl), (by first | exact p10 | exact fun _ => rfl), (by first | exact p11 | exact fun _ => rfl), (by first | exact p12 | exact fun _ => rfl), (fun _ => rfl), (by simp [h14]), (by simp [h15]), (by simpa using q1), (by simpa using q2), (by simpa using q3), (by simpa using q5), (by simpa using q6), (by simpa using q7), (by simpa using q9), (by simpa using q10), (by simpa using q11), (by simpa using q12), (by simp [he]), (by simp [h14]), (by simp [h15]), (by simp [h17]), (by simpa [h14, h17, h15] using hS)⟩
    · have h15 : L 15 = false := by cases hh : L 15 with | false => rfl | true => (have hq := q15 hh; simp [hi] at hq)
      have h17 : L 17 = false := by cases hh : L 17 with | false => rfl | true => (have hq := q17 hh; simp [hi] at hq)
      obtain rfl := p13 (by simp [he])
      have f0 : w'.cell? ⟨gf, hd * 6 + 4, none⟩ = some (.int .i64 (p : Int)) := by
        rw [if_neg (by simp [h17])] at hS
        split at hS
        · obtain ⟨gs, _, S⟩ := hS
          exact HFC.out _ _ S
        · exact HFC.out _ _ hS
      refine wpOp_step rfl (fun K hK => ?_)
      go_simp
      exact hK _ _ ⟨_, _, _, _, _, _, _, _, _, _, _, _, _, _, _, _, _, rfl, (by first | exact p0 | exact fun _ => rfl), (by first | exact p1 | exact fun _ => rfl), (by first | exact p2 | exact fun _ => rfl), (by first | exact p3 | exact fun _ => rfl), (by first | exact p4 | exact fun _ => rfl), (by first | exact p5 | exact fun _ => rfl), (by first | exact p6 | exact fun _ => rfl), (by first | exact p7 | exact fun _ => rfl), (by first | exact p8 | exact fun _ => rfl), (by first | exact p9 | exact fun _ => rfl), (by first | exact p10 | exact fun _ => rfl), (by first | exact p11 | exact fun _ => rfl), (by first | exact p12 | exact fun _ => rfl), (by first | exact p13 | exact fun _ => rfl), (fun _ => rfl), (by simp [h15]), (by simpa using q1), (by simpa using q2), (by simpa using q3), (by simpa using q5), (by simpa using q6), (by simpa using q7), (by simpa using q9), (by simpa using q10), (by simpa using q11), (by simpa using q12), (by simpa using q13), (by simp [he]), (by simp [h15]), (by simp [h17]), (by simpa [h15, h17] using hS)⟩
    · have h17 : L 17 = false := by cases hh : L 17 with | false => rfl | true => (have hq := q17 hh; simp [hi] at hq)
      obtain rfl := p3 (by simp [he])
      obtain rfl := p14 (by simp [he])
      refine wpOp_step rfl (fun K hK => ?_)
      go_simp
      exact hK _ _ ⟨_, _, _, _, _, _, _, _, _, _, _, _, _, _, _, _, _, rfl, (by first | exact p0 | exact fun _ => rfl), (by first | exact p1 | exact fun _ => rfl), (by first | exact p2 | exact fun _ => rfl), (by first | exact p3 | exact fun _ => rfl), (by first | exact p4 | exact fun _ => rfl), (by first | exact p5 | exact fun _ => rfl), (by first | exact p6 | exact fun _ => rfl), (by first | exact p7 | exact fun _ => rfl), (by first | exact p8 | exact fun _ => rfl), (by first | exact p9 | exact fun _ => rfl), (by first | exact p10 | exact fun _ => rfl), (by first | exact p11 | exact fun _ => rfl), (by first | exact p12 | exact fun _ => rfl), (by first | exact p13 | exact fun _ => rfl), (by first | exact p14 | exact fun _ => rfl), (fun _ => rfl), (by simpa using q1), (by simpa using q2), (by simpa using q3), (by simpa using q5), (by simpa using q6), (by simpa using q7), (by simpa using q9), (by simpa using q10), (by simpa using q11), (by simpa using q12), (by simpa using q13), (by simpa using q14), (by simp [he]), (by simp [h17]), (by simpa [h17] using hS)⟩
    · have h17 : L 17 = false := by cases hh : L 17 with | false => rfl | true => (have hq := q17 hh; simp [hi] at hq)
      rw [if_neg (by simp [h17]), if_neg (by simp [hi])] at hS
      have hN := (hS.new 136 [.int .i64 0, .int .i64 0]).perm (L' := dI gd (.slice (some ⟨gf, 0, none⟩) 8 c) hd go ga :: flI (some ⟨gf, 0, none⟩) c fl :: .cells w'.heap.size 136 [.int .i64 0, .int .i64 0] :: owI go no ow :: atI ga na at_ :: R) (.cons _ (.cons _ (List.perm_append_comm (l₁ := [It.cells w'.heap.size 136 [.int .i64 0, .int .i64 0]]) (l₂ := owI go no ow :: atI ga na at_ :: R))))
      refine wpOp_step rfl (fun K hK => ?_)
      go_simp
      exact hK _ _ ⟨_, _, _, _, _, _, _, _, _, _, _, _, _, _, _, _, _, rfl, (by first | exact p0 | exact fun _ => rfl), (by first | exact p1 | exact fun _ => rfl), (by first | exact p2 | exact fun _ => rfl), (by first | exact p3 | exact fun _ => rfl), (by first | exact p4 | exact fun _ => rfl), (by first | exact p5 | exact fun _ => rfl), (by first | exact p6 | exact fun _ => rfl), (by first | exact p7 | exact fun _ => rfl), (by first | exact p8 | exact fun _ => rfl), (by first | exact p9 | exact fun _ => rfl), (by first | exact p10 | exact fun _ => rfl), (by first | exact p11 | exact fun _ => rfl), (by first | exact p12 | exact fun _ => rfl), (by first | exact p13 | exact fun _ => rfl), (by first | exact p14 | exact fun _ => rfl), (by first | exact p15 | exact fun _ => rfl), (by simpa using q1), (by simpa using q2), (by simpa using q3), (by simpa using q5), (by simpa using q6), (by simpa using q7), (by simpa using q9), (by simpa using q10), (by simpa using q11), (by simpa using q12), (by simpa using q13), (by simpa using q14), (by simpa using q15), (by simp [h17]), (by rw [if_neg (by simp [h17]), if_pos (by simp)]; exact ⟨_, rfl, hN⟩)⟩
    · obtain rfl := p15 (by simp [he])
      have t16 : L 16 = true := by simp [he]
      rw [if_neg (by simp [hi]), if_pos t16] at hS
      obtain ⟨gs, rfl, hS⟩ := hS
      have e0 := hS.cell 2 rfl (k := 0) rfl
      have e1 := hS.cell 2 rfl (k := 1) rfl
      have u0 := hS.froz 2 rfl (k := 0)
      have u1 := hS.froz 2 rfl (k := 1)
      have hN := (hS.set 2 rfl (k := 0) (.int .i64 (hd : Int))).set 2 rfl (k := 1) (.int .i64 (p : Int))
      refine wpOp_step rfl (fun K hK => ?_)
      go_simp
      exact hK _ _ ⟨_, _, _, _, _, _, _, _, _, _, _, _, _, _, _, _, _, rfl, (by first | exact p0 | exact fun _ => rfl), (by first | exact p1 | exact fun _ => rfl), (by first | exact p2 | exact fun _ => rfl), (by first | exact p3 | exact fun _ => rfl), (by first | exact p4 | exact fun _ => rfl), (by first | exact p5 | exact fun _ => rfl), (by first | exact p6 | exact fun _ => rfl), (by first | exact p7 | exact fun _ => rfl), (by first | exact p8 | exact fun _ => rfl), (by first | exact p9 | exact fun _ => rfl), (by first | exact p10 | exact fun _ => rfl), (by first | exact p11 | exact fun _ => rfl), (by first | exact p12 | exact fun _ => rfl), (by first | exact p13 | exact fun _ => rfl), (by first | exact p14 | exact fun _ => rfl), (by first | exact p15 | exact fun _ => rfl), (by simpa using q1), (by simpa using q2), (by simpa using q3), (by simpa using q5), (by simpa using q6), (by simpa using q7), (by simpa using q9), (by simpa using q10), (by simpa using q11), (by simpa using q12), (by simpa using q13), (by simpa using q14), (by simpa using q15), (by simp [he]), (by rw [if_pos (by simp)]; exact ⟨_, rfl, hN⟩)⟩
  · rintro L ac w' ⟨x6, x7, x8, x9, x10, x11, x12, x13, x14, x15, x16, x17, x18, x19, x20, x21, x22, ha, p0, p1, p2, p3, p4, p5, p6, p7, p8, p9, p10, p11, p12, p13, p14, p15, q1, q2, q3, q5, q6, q7, q9, q10, q11, q12, q13, q14, q15, q17, hS⟩ hall
    have t16 := hall 16 (by decide)
    have t17 := hall 17 (by decide)
    rw [if_pos t17] at hS
    obtain ⟨gs, rfl, hS⟩ := hS
    obtain rfl := p0 (hall 0 (by decide))
    obtain rfl := p1 (hall 1 (by decide))
    obtain rfl := p2 (hall 2 (by decide))
    obtain rfl := p3 (hall 3 (by decide))
    obtain rfl := p4 (hall 4 (by decide))
    obtain rfl := p5 (hall 5 (by decide))
    obtain rfl := p6 (hall 6 (by decide))
    obtain rfl := p7 (hall 7 (by decide))
    obtain rfl := p8 (hall 8 (by decide))
    obtain rfl := p9 (hall 9 (by decide))
    obtain rfl := p10 (hall 10 (by decide))
    obtain rfl := p11 (hall 11 (by decide))
    obtain rfl := p12 (hall 12 (by decide))
    obtain rfl := p13 (hall 13 (by decide))
    obtain rfl := p14 (hall 14 (by decide))
    obtain rfl := p15 (hall 15 (by decide))
    simp only [turn, List.foldl_cons, List.foldl_nil, List.setIfInBounds_toArray, List.set_cons_succ, List.set_cons_zero] at ha
    subst ha
    clear q1 q2 q3 q5 q6 q7 q9 q10 q11 q12 q13 q14 q15 q17  t16 t17
    have H1 := Lib.hid hS
    have e0 := hS.cell 2 rfl (k := 0) rfl
    have e1 := hS.cell 2 rfl (k := 1) rfl
    clear hS HS
    go_wp2_with fail
    refine (do_any gd hd go ga (some ⟨gf, 0, none⟩) c fl (fl.set hd (x.put d p)) ⟨1, (hd : Int), (p : Int), d⟩ 0 _ w0 _ H1.out HRT.out HWAY.out HLO.out).mono ?_
    rintro en w2 ⟨rfl, A2, c2, hc2, K2⟩
    have HS := Lib.hid K2
    clear K2 H1 e0 e1
    generalize hfl2 : fl.set hd (x.put d p) = fl2 at HS
    have HFIN : Hid (∀ W, Sep w0 W (dI gd (.slice A2 8 c2) hd go ga :: flI A2 c2 fl2 :: .cells gs 136 [.int .i64 (hd : Int), .int .i64 (p : Int)] :: owI go (if (ow ⟨hd, p⟩).isSome then no else no + 1) (mup ow ⟨hd, p⟩ (n : Int)) :: atI ga (if (at_ (n : Int)).isSome then na else na + 1) (mup at_ (n : Int) ⟨hd, p⟩) :: R) → PgRet w0 gd go ga (fl.set hd (x.put d p)) hd (mup ow ⟨hd, p⟩ (n : Int)) (mup at_ (n : Int) ⟨hd, p⟩) R (.returned (.tuple #[])) W) := Lib.hid (fun W H => ⟨rfl, St.mk (by rw [hfl2]; exact H.sub (.cons_cons _ (.cons_cons _ (.cons _ (.refl _))))) hc2⟩)
    have HH2 := Lib.hid hfl2
    clear hfl2
    go_upto_region 2 with (fail)
    refine wp_region_inv0 (fun ac0 L ac w' => ∃ x31 x32 x33 x34 x35 x36 x37 x38 x39 x40 x41 x42 x43 x44 x45 x46, ac = turn ac0 [(31, x31), (32, x32), (33, x33), (34, x34), (35, x35), (36, x36), (37, x37), (38, x38), (39, x39), (40, x40), (41, x41), (42, x42), (43, x43), (44, x44), (45, x45), (46, x46)] ∧ (L 0 = true → x31 = .pointer (some ⟨gd, 0, none⟩)) ∧ (L 1 = true → x32 = .pointer (some ⟨gd, 0, none⟩)) ∧ (L 2 = true → x33 = .pointer (some ⟨gd, 2, none⟩)) ∧ (L 3 = true → x34 = .map (some go)) ∧ (L 4 = true → x35 = .agg #[.int .i64 (hd : Int), .int .i64 (p : Int)]) ∧ (L 5 = true → x36 = .pointer (some ⟨gd, 0, none⟩)) ∧ (L 6 = true → x37 = .pointer (some ⟨gd, 0, none⟩)) ∧ (L 7 = true → x38 = .pointer (some ⟨gd, 3, none⟩)) ∧ (L 8 = true → x39 = .map (some ga)) ∧ (L 9 = true → x40 = .int .i64 (n : Int)) ∧ (L 10 = true → x41 = .int .i64 (n : Int)) ∧ (L 11 = true → x42 = .agg #[.int .i64 (hd : Int), .int .i64 (p : Int)]) ∧ (L 13 = true → x44 = sndOf x43) ∧ (L 16 = true → x46 = sndOf x45) ∧ (L 1 = true → L 0 = true) ∧ (L 2 = true → L 1 = true) ∧ (L 3 = true → L 2 = true) ∧ (L 6 = true → L 5 = true) ∧ (L 7 = true → L 6 = true) ∧ (L 8 = true → L 7 = true) ∧ (L 12 = true → L 3 = true ∧ L 4 = true ∧ L 8 = true) ∧ (L 13 = true → L 12 = true) ∧ (L 14 = true → L 0 = true ∧ L 1 = true ∧ L 2 = true ∧ L 3 = true ∧ L 4 = true ∧ L 8 = true ∧ L 10 = true ∧ L 12 = true ∧ L 13 = true) ∧ (L 15 = true → L 0 = true ∧ L 1 = true ∧ L 2 = true ∧ L 3 = true ∧ L 4 = true ∧ L 8 = true ∧ L 9 = true ∧ L 10 = true ∧ L 12 = true ∧ L 13 = true ∧ L 14 = true) ∧ (L 16 = true → L 15 = true) ∧ (L 17 = true → L 0 = true ∧ L 1 = true ∧ L 2 = true ∧ L 3 = true ∧ L 4 = true ∧ L 5 = true ∧ L 6 = true ∧ L 7 = true ∧ L 8 = true ∧ L 9 = true ∧ L 10 = true ∧ L 11 = true ∧ L 12 = true ∧ L 13 = true ∧ L 14 = true ∧ L 15 = true ∧ L 16 = true) ∧ (if L 17 = true then (Sep w0 w' (dI gd (.slice A2 8 c2) hd go ga :: flI A2 c2 fl2 :: .cells gs 136 [.int .i64 (hd : Int), .int .i64 (p : Int)] :: owI go (if (ow ⟨hd, p⟩).isSome then no else no + 1) (mup ow ⟨hd, p⟩ (n : Int)) :: atI ga (if (at_ (n : Int)).isSome then na else na + 1) (mup at_ (n : Int) ⟨hd, p⟩) :: R)) else (if L 15 = true then (∃ (v0 : Value) (st : Nat) (es1 : Array MapEntry) (cl1 : Nat), x45 = .tuple #[v0, .int .i64 (st : Int)] ∧ Stored Tryz.prog 89 3 (Value.int .i64) smk ga na at_ (n : Int) st es1 cl1 ∧ Sep w0 w' (dI gd (.slice A2 8 c2) hd go ga :: flI A2 c2 fl2 :: .cells gs 136 [.int .i64 (hd : Int), .int .i64 (p : Int)] :: owI go (if (ow ⟨hd, p⟩).isSome then no else no + 1) (mup ow ⟨hd, p⟩ (n : Int)) :: .obj ga (.map es1 cl1) :: R)) else (if L 14 = true then (Sep w0 w' (dI gd (.slice A2 8 c2) hd go ga :: flI A2 c2 fl2 :: .cells gs 136 [.int .i64 (hd : Int), .int .i64 (p : Int)] :: owI go (if (ow ⟨hd, p⟩).isSome then no else no + 1) (mup ow ⟨hd, p⟩ (n : Int)) :: atI ga na at_ :: R)) else (if L 12 = true then (∃ (v0 : Value) (st : Nat) (es1 : Array MapEntry) (cl1 : Nat), x43 = .tuple #[v0, .int .i64 (st : Int)] ∧ Stored Tryz.prog 88 136 smk ienc go no ow ⟨hd, p⟩ st es1 cl1 ∧ Sep w0 w' (dI gd (.slice A2 8 c2) hd go ga :: flI A2 c2 fl2 :: .cells gs 136 [.int .i64 (hd : Int), .int .i64 (p : Int)] :: .obj go (.map es1 cl1) :: atI ga na at_ :: R)) else Sep w0 w' (dI gd (.slice A2 8 c2) hd go ga :: flI A2 c2 fl2 :: .cells gs 136 [.int .i64 (hd : Int), .int .i64 (p : Int)] :: owI go no ow :: atI ga na at_ :: R)))))) rfl (by kernel_rfl) ?_ ?_ ?_
    · simp only [turn, List.foldl_cons, List.foldl_nil, List.setIfInBounds_toArray, List.set_cons_succ, List.set_cons_zero]
      exact ⟨_, _, _, _, _, _, _, _, _, _, _, _, _, _, _, _, rfl, (fun h => absurd h (by decide)), (fun h => absurd h (by decide)), (fun h => absurd h (by decide)), (fun h => absurd h (by decide)), (fun h => absurd h (by decide)), (fun h => absurd h (by decide)), (fun h => absurd h (by decide)), (fun h => absurd h (by decide)), (fun h => absurd h (by decide)), (fun h => absurd h (by decide)), (fun h => absurd h (by decide)), (fun h => absurd h (by decide)), (fun h => absurd h (by decide)), (fun h => absurd h (by decide)), (fun h => absurd h (by decide)), (fun h => absurd h (by decide)), (fun h => absurd h (by decide)), (fun h => absurd h (by decide)), (fun h => absurd h (by decide)), (fun h => absurd h (by decide)), (fun h => absurd h (by decide)), (fun h => absurd h (by decide)), (fun h => absurd h (by decide)), (fun h => absurd h (by decide)), (fun h => absurd h (by decide)), (fun h => absurd h (by decide)), by simpa using HS.out.drew⟩
    · rintro L ac w' i o ⟨x31, x32, x33, x34, x35, x36, x37, x38, x39, x40, x41, x42, x43, x44, x45, x46, ha, p0, p1, p2, p3, p4, p5, p6, p7, p8, p9, p10, p11, p13, p16, q1, q2, q3, q6, q7, q8, q12, q13, q14, q15, q16, q17, hS⟩ ho hi he
      simp only [turn, List.foldl_cons, List.foldl_nil, List.setIfInBounds_toArray, List.set_cons_succ, List.set_cons_zero] at ha ⊢
      subst ha
      rcases i with _|_|_|_|_|_|_|_|_|_|_|_|_|_|_|_|_|_|i
      all_goals cases ho
      all_goals simp [Region.binds] at he
      · have h1 : L 1 = false := by cases hh : L 1 with | false => rfl | true => (have hq := q1 hh; simp [hi] at hq)
        have h14 : L 14 = false := by cases hh : L 14 with | false => rfl | true => (have hq := q14 hh; simp [hi] at hq)
        have h15 : L 15 = false := by cases hh : L 15 with | false => rfl | true => (have hq := q15 hh; simp [hi] at hq)
        have h17 : L 17 = false := by cases hh : L 17 with | false => rfl | true => (have hq := q17 hh; simp [hi] at hq)
        have h2 : L 2 = false := by cases hh : L 2 with | false => rfl | true => (have hq := q2 hh; simp [h1] at hq)
        have h16 : L 16 = false := by cases hh : L 16 with | false => rfl | true => (have hq := q16 hh; simp [h15] at hq)
        have h3 : L 3 = false := by cases hh : L 3 with | false => rfl | true => (have hq := q3 hh; simp [h2] at hq)
        have h12 : L 12 = false := by cases hh : L 12 with | false => rfl | true => (have hq := q12 hh; simp [h3] at hq)
        have h13 : L 13 = false := by cases hh : L 13 with | false => rfl | true => (have hq := q13 hh; simp [h12] at hq)
        refine wpOp_step rfl (fun K hK => ?_)
        go_simp
        exact hK _ _ ⟨_, _, _, _, _, _, _, _, _, _, _, _, _, _, _, _, rfl, (fun _ => rfl), (by simp [h1]), (by simp [h2]), (by simp [h3]), (by first | exact p4 | exact fun _ => rfl), (by first | exact p5 | exact fun _ => rfl), (by first | exact p6 | exact fun _ => rfl), (by first | exact p7 | exact fun _ => rfl), (by first | exact p8 | exact fun _ => rfl), (by first | exact p9 | exact fun _ => rfl), (by first | exact p10 | exact fun _ => rfl), (by first | exact p11 | exact fun _ => rfl), (by simp [h13]), (by simp [h16]), (by simp [h1]), (by simp [h2]), (by simp [h3]), (by simpa using q6), (by simpa using q7), (by simpa using q8), (by simp [h12]), (by simp [h13]), (by simp [h14]), (by simp [h15]), (by simp [h16]), (by simp [h17]), (by simpa [h1, h14, h15, h17, h2, h16, h3, h12, h13] using hS)⟩
      · have h2 : L 2 = false := by cases hh : L 2 with | false => rfl | true => (have hq := q2 hh; simp [hi] at hq)
        have h14 : L 14 = false := by cases hh : L 14 with | false => rfl | true => (have hq := q14 hh; simp [hi] at hq)
        have h15 : L 15 = false := by cases hh : L 15 with | false => rfl | true => (have hq := q15 hh; simp [hi] at hq)
        have h17 : L 17 = false := by cases hh : L 17 with | false => rfl | true => (have hq := q17 hh; simp [hi] at hq)
        have h3 : L 3 = false := by cases hh : L 3 with | false => rfl | true => (have hq := q3 hh; simp [h2] at hq)
        have h16 : L 16 = false := by cases hh : L 16 with | false => rfl | true => (have hq := q16 hh; simp [h15] at hq)
        have h12 : L 12 = false := by cases hh : L 12 with | false => rfl | true => (have hq := q12 hh; simp [h3] at hq)
        have h13 : L 13 = false := by cases hh : L 13 with | false => rfl | true => (have hq := q13 hh; simp [h12] at hq)
        obtain rfl := p0 (by simp [he])
        refine wpOp_step rfl (fun K hK => ?_)
        go_simp
        exact hK _ _ ⟨_, _, _, _, _, _, _, _, _, _, _, _, _, _, _, _, rfl, (by first | exact p0 | exact fun _ => rfl), (fun _ => rfl), (by simp [h2]), (by simp [h3]), (by first | exact p4 | exact fun _ => rfl), (by first | exact p5 | exact fun _ => rfl), (by first | exact p6 | exact fun _ => rfl), (by first | exact p7 | exact fun _ => rfl), (by first | exact p8 | exact fun _ => rfl), (by first | exact p9 | exact fun _ => rfl), (by first | exact p10 | exact fun _ => rfl), (by first | exact p11 | exact fun _ => rfl), (by simp [h13]), (by simp [h16]), (by simp [he]), (by simp [h2]), (by simp [h3]), (by simpa using q6), (by simpa using q7), (by simpa using q8), (by simp [h12]), (by simp [h13]), (by simp [h14]), (by simp [h15]), (by simp [h16]), (by simp [h17]), (by simpa [h2, h14, h15, h17, h3, h16, h12, h13] using hS)⟩
      · have h3 : L 3 = false := by cases hh : L 3 with | false => rfl | true => (have hq := q3 hh; simp [hi] at hq)
        have h14 : L 14 = false := by cases hh : L 14 with | false => rfl | true => (have hq := q14 hh; simp [hi] at hq)
        have h15 : L 15 = false := by cases hh : L 15 with | false => rfl | true => (have hq := q15 hh; simp [hi] at hq)
        have h17 : L 17 = false := by cases hh : L 17 with | false => rfl | true => (have hq := q17 hh; simp [hi] at hq)
        have h12 : L 12 = false := by cases hh : L 12 with | false => rfl | true => (have hq := q12 hh; simp [h3] at hq)
        have h16 : L 16 = false := by cases hh : L 16 with | false => rfl | true => (have hq := q16 hh; simp [h15] at hq)
        have h13 : L 13 = false := by cases hh : L 13 with | false => rfl | true => (have hq := q13 hh; simp [h12] at hq)
        obtain rfl := p1 (by simp [he])
        refine wpOp_step rfl (fun K hK => ?_)
        go_simp
        exact hK _ _ ⟨_, _, _, _, _, _, _, _, _, _, _, _, _, _, _, _, rfl, (by first | exact p0 | exact fun _ => rfl), (by first | exact p1 | exact fun _ => rfl), (fun _ => rfl), (by simp [h3]), (by first | exact p4 | exact fun _ => rfl), (by first | exact p5 | exact fun _ => rfl), (by first | exact p6 | exact fun _ => rfl), (by first | exact p7 | exact fun _ => rfl), (by first | exact p8 | exact fun _ => rfl), (by first | exact p9 | exact fun _ => rfl), (by first | exact p10 | exact fun _ => rfl), (by first | exact p11 | exact fun _ => rfl), (by simp [h13]), (by simp [h16]), (by simpa using q1), (by simp [he]), (by simp [h3]), (by simpa using q6), (by simpa using q7), (by simpa using q8), (by simp [h12]), (by simp [h13]), (by simp [h14]), (by simp [h15]), (by simp [h16]), (by simp [h17]), (by simpa [h3, h14, h15, h17, h12, h16, h13] using hS)⟩
      · have h12 : L 12 = false := by cases hh : L 12 with | false => rfl | true => (have hq := q12 hh; simp [hi] at hq)
        have h14 : L 14 = false := by cases hh : L 14 with | false => rfl | true => (have hq := q14 hh; simp [hi] at hq)
        have h15 : L 15 = false := by cases hh : L 15 with | false => rfl | true => (have hq := q15 hh; simp [hi] at hq)
        have h17 : L 17 = false := by cases hh : L 17 with | false => rfl | true => (have hq := q17 hh; simp [hi] at hq)
        have h13 : L 13 = false := by cases hh : L 13 with | false => rfl | true => (have hq := q13 hh; simp [h12] at hq)
        have h16 : L 16 = false := by cases hh : L 16 with | false => rfl | true => (have hq := q16 hh; simp [h15] at hq)
        obtain rfl := p2 (by simp [he])
        have f0 : w'.cell? ⟨gd, 2, none⟩ = some (.map (some go)) := by
          repeat' split at hS
          all_goals first
            | exact hS.cell 0 rfl rfl
            | exact hS.elim fun _ h => h.elim fun _ h => h.elim fun _ h => h.elim fun _ h => h.2.2.cell 0 rfl rfl
        refine wpOp_step rfl (fun K hK => ?_)
        go_simp
        exact hK _ _ ⟨_, _, _, _, _, _, _, _, _, _, _, _, _, _, _, _, rfl, (by first | exact p0 | exact fun _ => rfl), (by first | exact p1 | exact fun _ => rfl), (by first | exact p2 | exact fun _ => rfl), (fun _ => rfl), (by first | exact p4 | exact fun _ => rfl), (by first | exact p5 | exact fun _ => rfl), (by first | exact p6 | exact fun _ => rfl), (by first | exact p7 | exact fun _ => rfl), (by first | exact p8 | exact fun _ => rfl), (by first | exact p9 | exact fun _ => rfl), (by first | exact p10 | exact fun _ => rfl), (by first | exact p11 | exact fun _ => rfl), (by simp [h13]), (by simp [h16]), (by simpa using q1), (by simpa using q2), (by simp [he]), (by simpa using q6), (by simpa using q7), (by simpa using q8), (by simp [h12]), (by simp [h13]), (by simp [h14]), (by simp [h15]), (by simp [h16]), (by simp [h17]), (by simpa [h12, h14, h15, h17, h13, h16] using hS)⟩
      · have h12 : L 12 = false := by cases hh : L 12 with | false => rfl | true => (have hq := q12 hh; simp [hi] at hq)
        have h14 : L 14 = false := by cases hh : L 14 with | false => rfl | true => (have hq := q14 hh; simp [hi] at hq)
        have h15 : L 15 = false := by cases hh : L 15 with | false => rfl | true => (have hq := q15 hh; simp [hi] at hq)
        have h17 : L 17 = false := by cases hh : L 17 with | false => rfl | true => (have hq := q17 hh; simp [hi] at hq)
        have h13 : L 13 = false := by cases hh : L 13 with | false => rfl | true => (have hq := q13 hh; simp [h12] at hq)
        have h16 : L 16 = false := by cases hh : L 16 with | false => rfl | true => (have hq := q16 hh; simp [h15] at hq)
        have f0 : w'.cell? ⟨gs, 0, none⟩ = some (.int .i64 (hd : Int)) := by
          repeat' split at hS
          all_goals first
            | exact hS.cell 2 rfl rfl
            | exact hS.elim fun _ h => h.elim fun _ h => h.elim fun _ h => h.elim fun _ h => h.2.2.cell 2 rfl rfl
        have f1 : w'.cell? ⟨gs, 1, none⟩ = some (.int .i64 (p : Int)) := by
          repeat' split at hS
          all_goals first
            | exact hS.cell 2 rfl rfl
            | exact hS.elim fun _ h => h.elim fun _ h => h.elim fun _ h => h.elim fun _ h => h.2.2.cell 2 rfl rfl
        refine wpOp_step rfl (fun K hK => ?_)
        go_simp
        exact hK _ _ ⟨_, _, _, _, _, _, _, _, _, _, _, _, _, _, _, _, rfl, (by first | exact p0 | exact fun _ => rfl), (by first | exact p1 | exact fun _ => rfl), (by first | exact p2 | exact fun _ => rfl), (by first | exact p3 | exact fun _ => rfl), (fun _ => rfl), (by first | exact p5 | exact fun _ => rfl), (by first | exact p6 | exact fun _ => rfl), (by first | exact p7 | exact fun _ => rfl), (by first | exact p8 | exact fun _ => rfl), (by first | exact p9 | exact fun _ => rfl), (by first | exact p10 | exact fun _ => rfl), (by first | exact p11 | exact fun _ => rfl), (by simp [h13]), (by simp [h16]), (by simpa using q1), (by simpa using q2), (by simpa using q3), (by simpa using q6), (by simpa using q7), (by simpa using q8), (by simp [h12]), (by simp [h13]), (by simp [h14]), (by simp [h15]), (by simp [h16]), (by simp [h17]), (by simpa [h12, h14, h15, h17, h13, h16] using hS)⟩
      · have h6 : L 6 = false := by cases hh : L 6 with | false => rfl | true => (have hq := q6 hh; simp [hi] at hq)
        have h17 : L 17 = false := by cases hh : L 17 with | false => rfl | true => (have hq := q17 hh; simp [hi] at hq)
        have h7 : L 7 = false := by cases hh : L 7 with | false => rfl | true => (have hq := q7 hh; simp [h6] at hq)
        have h8 : L 8 = false := by cases hh : L 8 with | false => rfl | true => (have hq := q8 hh; simp [h7] at hq)
        have h12 : L 12 = false := by cases hh : L 12 with | false => rfl | true => (have hq := q12 hh; simp [h8] at hq)
        have h14 : L 14 = false := by cases hh : L 14 with | false => rfl | true => (have hq := q14 hh; simp [h8] at hq)
        have h15 : L 15 = false := by cases hh : L 15 with | false => rfl | true => (have hq := q15 hh; simp [h8] at hq)
        have h13 : L 13 = false := by cases hh : L 13 with | false => rfl | true => (have hq := q13 hh; simp [h12] at hq)
        have h16 : L 16 = false := by cases hh : L 16 with | false => rfl | true => (have hq := q16 hh; simp [h15] at hq)
        refine wpOp_step rfl (fun K hK => ?_)
        go_simp
        exact hK _ _ ⟨_, _, _, _, _, _, _, _, _, _, _, _, _, _, _, _, rfl, (by first | exact p0 | exact fun _ => rfl), (by first | exact p1 | exact fun _ => rfl), (by first | exact p2 | exact fun _ => rfl), (by first | exact p3 | exact fun _ => rfl), (by first | exact p4 | exact fun _ => rfl), (fun _ => rfl), (by simp [h6]), (by simp [h7]), (by simp [h8]), (by first | exact p9 | exact fun _ => rfl), (by first | exact p10 | exact fun _ => rfl), (by first | exact p11 | exact fun _ => rfl), (by simp [h13]), (by simp [h16]), (by simpa using q1), (by simpa using q2), (by simpa using q3), (by simp [h6]), (by simp [h7]), (by simp [h8]), (by simp [h12]), (by simp [h13]), (by simp [h14]), (by simp [h15]), (by simp [h16]), (by simp [h17]), (by simpa [h6, h17, h7, h8, h12, h14, h15, h13, h16] using hS)⟩
      · have h7 : L 7 = false := by cases hh : L 7 with | false => rfl | true => (have hq := q7 hh; simp [hi] at hq)
        have h17 : L 17 = false := by cases hh : L 17 with | false => rfl | true => (have hq := q17 hh; simp [hi] at hq)
        have h8 : L 8 = false := by cases hh : L 8 with | false => rfl | true => (have hq := q8 hh; simp [h7] at hq)
        have h12 : L 12 = false := by cases hh : L 12 with | false => rfl | true => (have hq := q12 hh; simp [h8] at hq)
        have h14 : L 14 = false := by cases hh : L 14 with | false => rfl | true => (have hq := q14 hh; simp [h8] at hq)
        have h15 : L 15 = false := by cases hh : L 15 with | false => rfl | true => (have hq := q15 hh; simp [h8] at hq)
        have h13 : L 13 = false := by cases hh : L 13 with | false => rfl | true => (have hq := q13 hh; simp [h12] at hq)
        have h16 : L 16 = false := by cases hh : L 16 with | false => rfl | true => (have hq := q16 hh; simp [h15] at hq)
        obtain rfl := p5 (by simp [he])
        refine wpOp_step rfl (fun K hK => ?_)
        go_simp
        exact hK _ _ ⟨_, _, _, _, _, _, _, _, _, _, _, _, _, _, _, _, rfl, (by first | exact p0 | exact fun _ => rfl), (by first | exact p1 | exact fun _ => rfl), (by first | exact p2 | exact fun _ => rfl), (by first | exact p3 | exact fun _ => rfl), (by first | exact p4 | exact fun _ => rfl), (by first | exact p5 | exact fun _ => rfl), (fun _ => rfl), (by simp [h7]), (by simp [h8]), (by first | exact p9 | exact fun _ => rfl), (by first | exact p10 | exact fun _ => rfl), (by first | exact p11 | exact fun _ => rfl), (by simp [h13]), (by simp [h16]), (by simpa using q1), (by simpa using q2), (by simpa using q3), (by simp [he]), (by simp [h7]), (by simp [h8]), (by simp [h12]), (by simp [h13]), (by simp [h14]), (by simp [h15]), (by simp [h16]), (by simp [h17]), (by simpa [h7, h17, h8, h12, h14, h15, h13, h16] using hS)⟩
      · have h8 : L 8 = false := by cases hh : L 8 with | false => rfl | true => (have hq := q8 hh; simp [hi] at hq)
        have h17 : L 17 = false := by cases hh : L 17 with | false => rfl | true => (have hq := q17 hh; simp [hi] at hq)
        have h12 : L 12 = false := by cases hh : L 12 with | false => rfl | true => (have hq := q12 hh; simp [h8] at hq)
        have h14 : L 14 = false := by cases hh : L 14 with | false => rfl | true => (have hq := q14 hh; simp [h8] at hq)
        have h15 : L 15 = false := by cases hh : L 15 with | false => rfl | true => (have hq := q15 hh; simp [h8] at hq)
        have h13 : L 13 = false := by cases hh : L 13 with | false => rfl | true => (have hq := q13 hh; simp [h12] at hq)
        have h16 : L 16 = false := by cases hh : L 16 with | false => rfl | true => (have hq := q16 hh; simp [h15] at hq)
        obtain rfl := p6 (by simp [he])
        refine wpOp_step rfl (fun K hK => ?_)
        go_simp
        exact hK _ _ ⟨_, _, _, _, _, _, _, _, _, _, _, _, _, _, _, _, rfl, (by first | exact p0 | exact fun _ => rfl), (by first | exact p1 | exact fun _ => rfl), (by first | exact p2 | exact fun _ => rfl), (by first | exact p3 | exact fun _ => rfl), (by first | exact p4 | exact fun _ => rfl), (by first | exact p5 | exact fun _ => rfl), (by first | exact p6 | exact fun _ => rfl), (fun _ => rfl), (by simp [h8]), (by first | exact p9 | exact fun _ => rfl), (by first | exact p10 | exact fun _ => rfl), (by first | exact p11 | exact fun _ => rfl), (by simp [h13]), (by simp [h16]), (by simpa using q1), (by simpa using q2), (by simpa using q3), (by simpa using q6), (by simp [he]), (by simp [h8]), (by simp [h12]), (by simp [h13]), (by simp [h14]), (by simp [h15]), (by simp [h16]), (by simp [h17]), (by simpa [h8, h17, h12, h14, h15, h13, h16] using hS)⟩
      · have h12 : L 12 = false := by cases hh : L 12 with | false => rfl | true => (have hq := q12 hh; simp [hi] at hq)
        have h14 : L 14 = false := by cases hh : L 14 with | false => rfl | true => (have hq := q14 hh; simp [hi] at hq)
        have h15 : L 15 = false := by cases hh : L 15 with | false => rfl | true => (have hq := q15 hh; simp [hi] at hq)
        have h17 : L 17 = false := by cases hh : L 17 with | false => rfl | true => (have hq := q17 hh; simp [hi] at hq)
        have h13 : L 13 = false := by cases hh : L 13 with | false => rfl | true => (have hq := q13 hh; simp [h12] at hq)
        have h16 : L 16 = false := by cases hh : L 16 with | false => rfl | true => (have hq := q16 hh; simp [h15] at hq)
        obtain rfl := p7 (by simp [he])
        have f0 : w'.cell? ⟨gd, 3, none⟩ = some (.map (some ga)) := by
          repeat' split at hS
          all_goals first
            | exact hS.cell 0 rfl rfl
            | exact hS.elim fun _ h => h.elim fun _ h => h.elim fun _ h => h.elim fun _ h => h.2.2.cell 0 rfl rfl
        refine wpOp_step rfl (fun K hK => ?_)
        go_simp
        exact hK _ _ ⟨_, _, _, _, _, _, _, _, _, _, _, _, _, _, _, _, rfl, (by first | exact p0 | exact fun _ => rfl), (by first | exact p1 | exact fun _ => rfl), (by first | exact p2 | exact fun _ => rfl), (by first | exact p3 | exact fun _ => rfl), (by first | exact p4 | exact fun _ => rfl), (by first | exact p5 | exact fun _ => rfl), (by first | exact p6 | exact fun _ => rfl), (by first | exact p7 | exact fun _ => rfl), (fun _ => rfl), (by first | exact p9 | exact fun _ => rfl), (by first | exact p10 | exact fun _ => rfl), (by first | exact p11 | exact fun _ => rfl), (by simp [h13]), (by simp [h16]), (by simpa using q1), (by simpa using q2), (by simpa using q3), (by simpa using q6), (by simpa using q7), (by simp [he]), (by simp [h12]), (by simp [h13]), (by simp [h14]), (by simp [h15]), (by simp [h16]), (by simp [h17]), (by simpa [h12, h14, h15, h17, h13, h16] using hS)⟩
      · have h15 : L 15 = false := by cases hh : L 15 with | false => rfl | true => (have hq := q15 hh; simp [hi] at hq)
        have h17 : L 17 = false := by cases hh : L 17 with | false => rfl | true => (have hq := q17 hh; simp [hi] at hq)
        have h16 : L 16 = false := by cases hh : L 16 with | false => rfl | true => (have hq := q16 hh; simp [h15] at hq)
        refine wpOp_step rfl (fun K hK => ?_)
        go_simp
        exact hK _ _ ⟨_, _, _, _, _, _, _, _, _, _, _, _, _, _, _, _, rfl, (by first | exact p0 | exact fun _ => rfl), (by first | exact p1 | exact fun _ => rfl), (by first | exact p2 | exact fun _ => rfl), (by first | exact p3 | exact fun _ => rfl), (by first | exact p4 | exact fun _ => rfl), (by first | exact p5 | exact fun _ => rfl), (by first | exact p6 | exact fun _ => rfl), (by first | exact p7 | exact fun _ => rfl), (by first | exact p8 | exact fun _ => rfl), (fun _ => rfl), (by first | exact p10 | exact fun _ => rfl), (by first | exact p11 | exact fun _ => rfl), (by first | exact p13 | exact fun _ => rfl), (by simp [h16]), (by simpa using q1), (by simpa using q2), (by simpa using q3), (by simpa using q6), (by simpa using q7), (by simpa using q8), (by simpa using q12), (by simpa using q13), (by simpa using q14), (by simp [h15]), (by simp [h16]), (by simp [h17]), (by simpa [h15, h17, h16] using hS)⟩
      · have h14 : L 14 = false := by cases hh : L 14 with | false => rfl | true => (have hq := q14 hh; simp [hi] at hq)
        have h15 : L 15 = false := by cases hh : L 15 with | false => rfl | true => (have hq := q15 hh; simp [hi] at hq)
        have h17 : L 17 = false := by cases hh : L 17 with | false => rfl | true => (have hq := q17 hh; simp [hi] at hq)
        have h16 : L 16 = false := by cases hh : L 16 with | false => rfl | true => (have hq := q16 hh; simp [h15] at hq)
        refine wpOp_step rfl (fun K hK => ?_)
        go_simp
        exact hK _ _ ⟨_, _, _, _, _, _, _, _, _, _, _, _, _, _, _, _, rfl, (by first | exact p0 | exact fun _ => rfl), (by first | exact p1 | exact fun _ => rfl), (by first | exact p2 | exact fun _ => rfl), (by first | exact p3 | exact fun _ => rfl), (by first | exact p4 | exact fun _ => rfl), (by first | exact p5 | exact fun _ => rfl), (by first | exact p6 | exact fun _ => rfl), (by first | exact p7 | exact fun _ => rfl), (by first | exact p8 | exact fun _ => rfl), (by first | exact p9 | exact fun _ => rfl), (fun _ => rfl), (by first | exact p11 | exact fun _ => rfl), (by first | exact p13 | exact fun _ => rfl), (by simp [h16]), (by simpa using q1), (by simpa using q2), (by simpa using q3), (by simpa using q6), (by simpa using q7), (by simpa using q8), (by simpa using q12), (by simpa using q13), (by simp [h14]), (by simp [h15]), (by simp [h16]), (by simp [h17]), (by simpa [h14, h15, h17, h16] using hS)⟩
      · have h17 : L 17 = false := by cases hh : L 17 with | false => rfl | true => (have hq := q17 hh; simp [hi] at hq)
        have f0 : w'.cell? ⟨gs, 0, none⟩ = some (.int .i64 (hd : Int)) := by
          repeat' split at hS
          all_goals first
            | exact hS.cell 2 rfl rfl
            | exact hS.elim fun _ h => h.elim fun _ h => h.elim fun _ h => h.elim fun _ h => h.2.2.cell 2 rfl rfl
        have f1 : w'.cell? ⟨gs, 1, none⟩ = some (.int .i64 (p : Int)) := by
          repeat' split at hS
          all_goals first
            | exact hS.cell 2 rfl rfl
            | exact hS.elim fun _ h => h.elim fun _ h => h.elim fun _ h => h.elim fun _ h => h.2.2.cell 2 rfl rfl
        refine wpOp_step rfl (fun K hK => ?_)
        go_simp
        exact hK _ _ ⟨_, _, _, _, _, _, _, _, _, _, _, _, _, _, _, _, rfl, (by first | exact p0 | exact fun _ => rfl), (by first | exact p1 | exact fun _ => rfl), (by first | exact p2 | exact fun _ => rfl), (by first | exact p3 | exact fun _ => rfl), (by first | exact p4 | exact fun _ => rfl), (by first | exact p5 | exact fun _ => rfl), (by first | exact p6 | exact fun _ => rfl), (by first | exact p7 | exact fun _ => rfl), (by first | exact p8 | exact fun _ => rfl), (by first | exact p9 | exact fun _ => rfl), (by first | exact p10 | exact fun _ => rfl), (fun _ => rfl), (by first | exact p13 | exact fun _ => rfl), (by first | exact p16 | exact fun _ => rfl), (by simpa using q1), (by simpa using q2), (by simpa using q3), (by simpa using q6), (by simpa using q7), (by simpa using q8), (by simpa using q12), (by simpa using q13), (by simpa using q14), (by simpa using q15), (by simpa using q16), (by simp [h17]), (by simpa [h17] using hS)⟩
      · have h13 : L 13 = false := by cases hh : L 13 with | false => rfl | true => (have hq := q13 hh; simp [hi] at hq)
        have h14 : L 14 = false := by cases hh : L 14 with | false => rfl | true => (have hq := q14 hh; simp [hi] at hq)
        have h15 : L 15 = false := by cases hh : L 15 with | false => rfl | true => (have hq := q15 hh; simp [hi] at hq)
        have h17 : L 17 = false := by cases hh : L 17 with | false => rfl | true => (have hq := q17 hh; simp [hi] at hq)
        have h16 : L 16 = false := by cases hh : L 16 with | false => rfl | true => (have hq := q16 hh; simp [h15] at hq)
        obtain rfl := p3 (by simp [he])
        obtain rfl := p4 (by simp [he])
        rw [if_neg (by simp [h17]), if_neg (by simp [h15]), if_neg (by simp [h14]), if_neg (by simp [hi])] at hS
        obtain ⟨v0, st, es1, cl1, w5, hrun, _, hsz, hN, hst⟩ := hS.entry 3 rfl kspot HSO.out Tryz.underlying88 HNO.out iz
        simp only [smk] at hrun
        refine wpOp_step rfl (fun K hK => ?_)
        go_simp
        exact hK _ _ ⟨_, _, _, _, _, _, _, _, _, _, _, _, _, _, _, _, rfl, (by first | exact p0 | exact fun _ => rfl), (by first | exact p1 | exact fun _ => rfl), (by first | exact p2 | exact fun _ => rfl), (by first | exact p3 | exact fun _ => rfl), (by first | exact p4 | exact fun _ => rfl), (by first | exact p5 | exact fun _ => rfl), (by first | exact p6 | exact fun _ => rfl), (by first | exact p7 | exact fun _ => rfl), (by first | exact p8 | exact fun _ => rfl), (by first | exact p9 | exact fun _ => rfl), (by first | exact p10 | exact fun _ => rfl), (by first | exact p11 | exact fun _ => rfl), (by simp [h13]), (by simp [h16]), (by simpa using q1), (by simpa using q2), (by simpa using q3), (by simpa using q6), (by simpa using q7), (by simpa using q8), (by simp [he]), (by simp [h13]), (by simp [h14]), (by simp [h15]), (by simp [h16]), (by simp [h17]), (by rw [if_neg (by simp [h17]), if_neg (by simp [h15]), if_neg (by simp [h14]), if_pos (by simp)]; exact ⟨_, _, _, _, rfl, hst, hN⟩)⟩
      · have h14 : L 14 = false := by cases hh : L 14 with | false => rfl | true => (have hq := q14 hh; simp [hi] at hq)
        have h15 : L 15 = false := by cases hh : L 15 with | false => rfl | true => (have hq := q15 hh; simp [hi] at hq)
        have h17 : L 17 = false := by cases hh : L 17 with | false => rfl | true => (have hq := q17 hh; simp [hi] at hq)
        have h16 : L 16 = false := by cases hh : L 16 with | false => rfl | true => (have hq := q16 hh; simp [h15] at hq)
        obtain ⟨v0, st, e54⟩ : ∃ (v0 : Value) (st : Nat), x43 = .tuple #[v0, .int .i64 st] := by
          rw [if_neg (by simp [h17]), if_neg (by simp [h15]), if_neg (by simp [h14]), if_pos (by simp [he])] at hS
          obtain ⟨v0, st, es1, cl1, e, _⟩ := hS
          exact ⟨v0, _, e⟩
        subst e54
        refine wpOp_step rfl (fun K hK => ?_)
        go_simp
        exact hK _ _ ⟨_, _, _, _, _, _, _, _, _, _, _, _, _, _, _, _, rfl, (by first | exact p0 | exact fun _ => rfl), (by first | exact p1 | exact fun _ => rfl), (by first | exact p2 | exact fun _ => rfl), (by first | exact p3 | exact fun _ => rfl), (by first | exact p4 | exact fun _ => rfl), (by first | exact p5 | exact fun _ => rfl), (by first | exact p6 | exact fun _ => rfl), (by first | exact p7 | exact fun _ => rfl), (by first | exact p8 | exact fun _ => rfl), (by first | exact p9 | exact fun _ => rfl), (by first | exact p10 | exact fun _ => rfl), (by first | exact p11 | exact fun _ => rfl), (fun _ => rfl), (by simp [h16]), (by simpa using q1), (by simpa using q2), (by simpa using q3), (by simpa using q6), (by simpa using q7), (by simpa using q8), (by simpa using q12), (by simp [he]), (by simp [h14]), (by simp [h15]), (by simp [h16]), (by simp [h17]), (by simpa [h14, h15, h17, h16] using hS)⟩
      · have h15 : L 15 = false := by cases hh : L 15 with | false => rfl | true => (have hq := q15 hh; simp [hi] at hq)
        have h17 : L 17 = false := by cases hh : L 17 with | false => rfl | true => (have hq := q17 hh; simp [hi] at hq)
        have h16 : L 16 = false := by cases hh : L 16 with | false => rfl | true => (have hq := q16 hh; simp [h15] at hq)
        obtain rfl := p3 (by simp [he])
        obtain rfl := p13 (by simp [he])
        obtain rfl := p10 (by simp [he])
        have t12 : L 12 = true := by simp [he]
        rw [if_neg (by simp [h17]), if_neg (by simp [h15]), if_neg (by simp [hi]), if_pos t12] at hS
        obtain ⟨v0, st, es1, cl1, rfl, hst, hS⟩ := hS
        simp only [sndOf_mk]
        obtain ⟨w5, hrun, hsz, hN⟩ := hst (n : Int) w' _ 3 _ hS rfl
        unfold ienc at hrun
        refine wpOp_step rfl (fun K hK => ?_)
        go_simp
        exact hK _ _ ⟨_, _, _, _, _, _, _, _, _, _, _, _, _, _, _, _, rfl, (by first | exact p0 | exact fun _ => rfl), (by first | exact p1 | exact fun _ => rfl), (by first | exact p2 | exact fun _ => rfl), (by first | exact p3 | exact fun _ => rfl), (by first | exact p4 | exact fun _ => rfl), (by first | exact p5 | exact fun _ => rfl), (by first | exact p6 | exact fun _ => rfl), (by first | exact p7 | exact fun _ => rfl), (by first | exact p8 | exact fun _ => rfl), (by first | exact p9 | exact fun _ => rfl), (by first | exact p10 | exact fun _ => rfl), (by first | exact p11 | exact fun _ => rfl), (by first | exact p13 | exact fun _ => rfl), (by simp [h16]), (by simpa using q1), (by simpa using q2), (by simpa using q3), (by simpa using q6), (by simpa using q7), (by simpa using q8), (by simpa using q12), (by simpa using q13), (by simp [he]), (by simp [h15]), (by simp [h16]), (by simp [h17]), (by rw [if_neg (by simp [h17]), if_neg (by simp [h15]), if_pos (by simp)]; exact hN)⟩
      · have h16 : L 16 = false := by cases hh : L 16 with | false => rfl | true => (have hq := q16 hh; simp [hi] at hq)
        have h17 : L 17 = false := by cases hh : L 17 with | false => rfl | true => (have hq := q17 hh; simp [hi] at hq)
        obtain rfl := p8 (by simp [he])
        obtain rfl := p9 (by simp [he])
        have t12 : L 12 = true := by simp [he]
        have t14 : L 14 = true := by simp [he]
        rw [if_neg (by simp [h17]), if_neg (by simp [hi]), if_pos t14] at hS
        obtain ⟨v0, st, es1, cl1, w5, hrun, _, hsz, hN, hst⟩ := hS.entry 4 rfl kint HNW.out Tryz.underlying89 HNA.out sz
        refine wpOp_step rfl (fun K hK => ?_)
        go_simp
        exact hK _ _ ⟨_, _, _, _, _, _, _, _, _, _, _, _, _, _, _, _, rfl, (by first | exact p0 | exact fun _ => rfl), (by first | exact p1 | exact fun _ => rfl), (by first | exact p2 | exact fun _ => rfl), (by first | exact p3 | exact fun _ => rfl), (by first | exact p4 | exact fun _ => rfl), (by first | exact p5 | exact fun _ => rfl), (by first | exact p6 | exact fun _ => rfl), (by first | exact p7 | exact fun _ => rfl), (by first | exact p8 | exact fun _ => rfl), (by first | exact p9 | exact fun _ => rfl), (by first | exact p10 | exact fun _ => rfl), (by first | exact p11 | exact fun _ => rfl), (by first | exact p13 | exact fun _ => rfl), (by simp [h16]), (by simpa using q1), (by simpa using q2), (by simpa using q3), (by simpa using q6), (by simpa using q7), (by simpa using q8), (by simpa using q12), (by simpa using q13), (by simpa using q14), (by simp [he]), (by simp [h16]), (by simp [h17]), (by rw [if_neg (by simp [h17]), if_pos (by simp)]; exact ⟨_, _, _, _, rfl, hst, hN⟩)⟩
      · have h17 : L 17 = false := by cases hh : L 17 with | false => rfl | true => (have hq := q17 hh; simp [hi] at hq)
        obtain ⟨v0, st, e56⟩ : ∃ (v0 : Value) (st : Nat), x45 = .tuple #[v0, .int .i64 st] := by
          rw [if_neg (by simp [h17]), if_pos (by simp [he])] at hS
          obtain ⟨v0, st, es1, cl1, e, _⟩ := hS
          exact ⟨v0, _, e⟩
        subst e56
        refine wpOp_step rfl (fun K hK => ?_)
        go_simp
        exact hK _ _ ⟨_, _, _, _, _, _, _, _, _, _, _, _, _, _, _, _, rfl, (by first | exact p0 | exact fun _ => rfl), (by first | exact p1 | exact fun _ => rfl), (by first | exact p2 | exact fun _ => rfl), (by first | exact p3 | exact fun _ => rfl), (by first | exact p4 | exact fun _ => rfl), (by first | exact p5 | exact fun _ => rfl), (by first | exact p6 | exact fun _ => rfl), (by first | exact p7 | exact fun _ => rfl), (by first | exact p8 | exact fun _ => rfl), (by first | exact p9 | exact fun _ => rfl), (by first | exact p10 | exact fun _ => rfl), (by first | exact p11 | exact fun _ => rfl), (by first | exact p13 | exact fun _ => rfl), (fun _ => rfl), (by simpa using q1), (by simpa using q2), (by simpa using q3), (by simpa using q6), (by simpa using q7), (by simpa using q8), (by simpa using q12), (by simpa using q13), (by simpa using q14), (by simpa using q15), (by simp [he]), (by simp [h17]), (by simpa [h17] using hS)⟩
      · obtain rfl := p8 (by simp [he])
        obtain rfl := p16 (by simp [he])
        obtain rfl := p11 (by simp [he])
        have t12 : L 12 = true := by simp [he]
        have t14 : L 14 = true := by simp [he]
        have t15 : L 15 = true := by simp [he]
        rw [if_neg (by simp [hi]), if_pos t15] at hS
        obtain ⟨v0, st, es1, cl1, rfl, hst, hS⟩ := hS
        simp only [sndOf_mk]
        obtain ⟨w5, hrun, hsz, hN⟩ := hst ⟨hd, p⟩ w' _ 4 _ hS rfl
        simp only [smk] at hrun
        refine wpOp_step rfl (fun K hK => ?_)
        go_simp
        exact hK _ _ ⟨_, _, _, _, _, _, _, _, _, _, _, _, _, _, _, _, rfl, (by first | exact p0 | exact fun _ => rfl), (by first | exact p1 | exact fun _ => rfl), (by first | exact p2 | exact fun _ => rfl), (by first | exact p3 | exact fun _ => rfl), (by first | exact p4 | exact fun _ => rfl), (by first | exact p5 | exact fun _ => rfl), (by first | exact p6 | exact fun _ => rfl), (by first | exact p7 | exact fun _ => rfl), (by first | exact p8 | exact fun _ => rfl), (by first | exact p9 | exact fun _ => rfl), (by first | exact p10 | exact fun _ => rfl), (by first | exact p11 | exact fun _ => rfl), (by first | exact p13 | exact fun _ => rfl), (by first | exact p16 | exact fun _ => rfl), (by simpa using q1), (by simpa using q2), (by simpa using q3), (by simpa using q6), (by simpa using q7), (by simpa using q8), (by simpa using q12), (by simpa using q13), (by simpa using q14), (by simpa using q15), (by simpa using q16), (by simp [he]), (by rw [if_pos (by simp)]; exact hN)⟩
    · rintro L ac w' ⟨x31, x32, x33, x34, x35, x36, x37, x38, x39, x40, x41, x42, x43, x44, x45, x46, ha, p0, p1, p2, p3, p4, p5, p6, p7, p8, p9, p10, p11, p13, p16, q1, q2, q3, q6, q7, q8, q12, q13, q14, q15, q16, q17, hS⟩ hall
      have t12 := hall 12 (by decide)
      have t14 := hall 14 (by decide)
      have t15 := hall 15 (by decide)
      have t17 := hall 17 (by decide)
      rw [if_pos t17] at hS
      
      obtain rfl := p0 (hall 0 (by decide))
      obtain rfl := p1 (hall 1 (by decide))
      obtain rfl := p2 (hall 2 (by decide))
      obtain rfl := p3 (hall 3 (by decide))
      obtain rfl := p4 (hall 4 (by decide))
      obtain rfl := p5 (hall 5 (by decide))
      obtain rfl := p6 (hall 6 (by decide))
      obtain rfl := p7 (hall 7 (by decide))
      obtain rfl := p8 (hall 8 (by decide))
      obtain rfl := p9 (hall 9 (by decide))
      obtain rfl := p10 (hall 10 (by decide))
      obtain rfl := p11 (hall 11 (by decide))
      obtain rfl := p13 (hall 13 (by decide))
      obtain rfl := p16 (hall 16 (by decide))
      simp only [turn, List.foldl_cons, List.foldl_nil, List.setIfInBounds_toArray, List.set_cons_succ, List.set_cons_zero] at ha
      subst ha
      clear q1 q2 q3 q6 q7 q8 q12 q13 q14 q15 q16 q17  t12 t14 t15 t17
      have H9 := Lib.hid hS
      clear hS
      go_wp2
      refine bodyPost_end (v := .tuple #[]) (by simp [results, Tryz.results66]) rfl ?_
      exact HFIN.out _ H9.out
end Ft
end Go.Proofs.YtjopiepfjbnkbaaGreatDoor
