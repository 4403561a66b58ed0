/-
  Names: every constant of package api has the value given there. Conditions: none (the law takes no argument).
-/
import Derived.Test.YtljdfkejhgaciaaMem
namespace Go.Proofs.Ytljdfkejhgaciaa
open Go.ChangeShapes Go.WideShapes Go.ChangeAt Go.RowKit
namespace NamesLaw

def L0 : List Int := [0, 1, 2, 3, 4, 5, 6, 7, 8, 9]
def L1 : List Int := [400, 4096, 1099511627776, 8, 4, 1048576, 1, 2, 3, 1, 2, 1, 2, 3, 1, 2, 3, 1, 2, 3, 4, 5, 1, 2, 3, 1, 2, 3, 4, 1, 2, 3, 1, 2, 3, 1, 2, 3, 4, 5, 16, 3, 12, 16, 6, 8]
theorem l0 : ∀ j, j < 10 → L0.getD j 0 = (j : Int) := by decide
theorem arr_at (L : List Int) (j : Nat) (hj : j < L.length) : (L.map (Value.int .i64)).toArray[j]? = some (Value.int .i64 (L.getD j 0)) := by
  simp [List.getElem?_eq_getElem hj, List.getD_eq_getElem?_getD]

set_option maxRecDepth 100000 in
set_option maxHeartbeats 1600000 in
theorem walk (w : World) : Calls Try.prog 7 #[] w (Ret w (.bool true)) := by
  have f0 : ∀ (W : World) (j : Nat), j < 10 → (W.alloc (.cells (L0.map (Value.int .i64)).toArray 23)).cell? ⟨W.heap.size, j, none⟩ = some (.int .i64 (j : Int)) := fun W j hj => by
    rw [cell_of_row _ _ j _ 23 (0, 0) (heap_alloc_new W _), arr_at L0 j hj, l0 j hj]
  have f1 : ∀ (W : World) (j : Nat), j < 46 → (W.alloc (.cells (L1.map (Value.int .i64)).toArray 3)).cell? ⟨W.heap.size, j, none⟩ = some (.int .i64 (L1.getD j 0)) := fun W j hj => by
    rw [cell_of_row _ _ j _ 3 (0, 0) (heap_alloc_new W _), arr_at L1 j hj]
  have F0 := Lib.hid f0
  have F1 := Lib.hid f1
  clear f0 f1
  go_enter Try.func7, Try.ntmps7
  go_wp2
  go_loopg [10] 10 (fun g i wr => ∃ k : Nat, k ≤ 10 ∧ g = 10 - k ∧ i = .int .i64 k ∧ Below w.heap.size w wr ∧ (∀ j, j < 10 → wr.cell? ⟨w.heap.size, j, none⟩ = some (.int .i64 (j : Int))))
  case atStart => exact ⟨0, by omega, rfl, rfl, (Below.refl _ _).alloc (Nat.le_refl _) _, fun j hj => F0.out w j hj⟩
  case round =>
    obtain ⟨k, hk, rfl, rfl, hB, hc⟩ := hrel
    by_cases hlt : k < 10
    · have c0 := hc k hlt
      have HC := Lib.hid hc
      clear hc
      go_wp2
      go_roundg (10 - (k + 1))
      case measure => omega
      case rel => exact ⟨k + 1, by omega, rfl, by go_num, hB, HC.out⟩
    · clear hc
      obtain ⟨wo, rfl⟩ : ∃ wo : World, wo = wr := ⟨_, rfl⟩
      have hsz := hB.size
      go_wp2
      go_loopg [23] 46 (fun g i wi => ∃ k : Nat, k ≤ 46 ∧ g = 46 - k ∧ i = .int .i64 k ∧ Below w.heap.size w wi ∧ (∀ j, j < 46 → wi.cell? ⟨wo.heap.size, j, none⟩ = some (.int .i64 (L1.getD j 0))) ∧
        (∀ j, j < 46 → wi.cell? ⟨wo.heap.size + 1, j, none⟩ = some (.int .i64 (L1.getD j 0))))
      case atStart =>
        refine ⟨0, by omega, rfl, rfl, (hB.alloc hsz _).alloc (by simp; omega) _, fun j hj => ?_, fun j hj => ?_⟩
        · rw [World.cell?_alloc_lt _ _ _ (by simp)]
          exact F1.out wo j hj
        · have := F1.out (wo.alloc (.cells (L1.map (Value.int .i64)).toArray 3)) j hj
          simp only [World.size_alloc] at this
          exact this
      case round =>
        obtain ⟨j, hj, rfl, rfl, hBi, h1, h2⟩ := hrel
        by_cases hlt' : j < 46
        · have c1 := h1 j hlt'
          have c2 := h2 j hlt'
          have H1 := Lib.hid h1
          have H2 := Lib.hid h2
          clear h1 h2
          generalize L1.getD j 0 = z at c1 c2
          have hi : (j : Int) < 46 := by omega
          have e1 : ∀ y : LaterOf wr, y.w.cell? ⟨wo.heap.size, j, none⟩ = some (.int .i64 z) := fun y => y.cell c1
          have e2 : ∀ y : LaterOf wr, y.w.cell? ⟨wo.heap.size + 1, j, none⟩ = some (.int .i64 z) := fun y => y.cell c2
          have h1' : ∀ y : LaterOf wr, ∀ j, j < 46 → y.w.cell? ⟨wo.heap.size, j, none⟩ = some (.int .i64 (L1.getD j 0)) := fun y j hj => y.cell (H1.out j hj)
          have h2' : ∀ y : LaterOf wr, ∀ j, j < 46 → y.w.cell? ⟨wo.heap.size + 1, j, none⟩ = some (.int .i64 (L1.getD j 0)) := fun y j hj => y.cell (H2.out j hj)
          have K1 := Lib.hid h1'
          have K2 := Lib.hid h2'
          clear h1' h2'
          have hi0 : (0 : Int) ≤ (j : Int) := by omega
          go_upto_region 13 with (fail)
          refine wp_region_later (by kernel_rfl) (by kernel_rfl) ?_
          repeat (go_big_quiet_step (fail))
          refine wpQuiet_nil ?_; intro _ hw'; obtain ⟨xq, hw''⟩ := hw'; subst hw''
          go_wp2
          go_roundg (46 - (j + 1))
          case measure => omega
          case rel => exact ⟨j + 1, by omega, rfl, by go_num, hBi.trans (xq.h.mono hBi.size), K1.out xq, K2.out xq⟩
        · clear h1 h2
          go_wp2
          go_ret
          exact Ret.mk rfl hBi

set_option maxRecDepth 100000 in
theorem lifted (os : Os) (started : os.Started) (H : Type) (enc : TypeId × Value → H) :
    ReturnsInHanded {} Try.checked os 7 .any (Rows.namesSpec.pre6 enc Try.prog Try.f7 Rows.namesRow.domain false)
      (Rows.namesSpec.post enc Try.prog Try.f7 false true false false) := by
  refine returnsInHanded_of_change (C := Try.checked) own started (by kernel_rfl) Try.func7
    (ChangeSpec.witness6 (enc := enc) (C := Try.checked) false ⟨#[], #[], []⟩ 8 (by kernel_rfl) (by kernel_rfl) (by kernel_rfl) (by kernel_rfl)) ?_
  intro W base args ds gs before hval0 hW hcnd _
  have hW0 := hW
  obtain ⟨p, q, hA0, hV, _, _, _⟩ := hW
  have hA : DataW.TrodAll enc Try.prog W 0 (fun _ => true) true Try.f7.params.toList args.toList ds p := hA0
  rw [Try.params7] at hA
  obtain ⟨hargs, rfl, rfl⟩ := trodAll_nil hA
  obtain rfl : args = #[] := by cases args; simp_all
  refine (walk W).mono fun e W' ⟨he, hg⟩ => ⟨_, he, ?_⟩
  exact law_post laidOut Try.underlying4 rfl rfl (by kernel_rfl) (fun xs hx => by
    match xs, hx with
    | [], _ => rfl) hW0 hg

theorem over : Rows.namesRow.holds Try.pinned (OpenSpec.ofChange Rows.namesSpec) :=
  OpenClaim.holds_of_wide 7 Try.f7 rfl rfl rfl rfl rfl rfl rfl ⟨rfl, rfl, rfl, rfl, rfl⟩ rfl rfl rfl rfl rfl (by kernel_rfl) Try.func7 (by kernel_rfl)
    (of_decide_eq_true (by kernel_rfl)) (by unfold Func.isWrapper; first | (rw [if_pos (by decide +kernel)]; kernel_rfl) | (rw [if_neg (by decide +kernel)]; exact ⟨rfl, rfl⟩))
    (fun os started H enc _ => lifted os started H enc)

end NamesLaw
theorem names_holds : Rows.NamesSaid := NamesLaw.over
end Go.Proofs.Ytljdfkejhgaciaa
