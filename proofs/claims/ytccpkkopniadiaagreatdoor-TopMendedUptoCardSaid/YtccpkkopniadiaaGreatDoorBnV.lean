/-
  Walk of the reference's yread. Conditions: none beyond each theorem's own premises.
-/
import Derived.Test.YtccpkkopniadiaaGreatDoorBnK
import Derived.Test.YtccpkkopniadiaaGreatDoorBnQ
import Derived.Test.YtccpkkopniadiaaGreatDoorBnU
import Derived.Test.YtccpkkopniadiaaGreatDoorMap
import Derived.Test.YtccpkkopniadiaaGreatDoorBase
namespace Go.Proofs.YtccpkkopniadiaaGreatDoor
open Go.RowKit Go.Shelf Go.Sort
set_option linter.unusedVariables false
namespace Bn

theorem snoc_eq {α : Type} {a b : List α} {x y : α} (h : a ++ [x] = b ++ [y]) : a = b ∧ x = y := by
  have h2 := List.append_inj' h rfl
  exact ⟨h2.1, by simpa using h2.2⟩
theorem snoc_ex {α : Type} : ∀ (l : List α), l ≠ [] → ∃ p y, l = p ++ [y]
  | l, h => ⟨l.dropLast, l.getLast h, (List.dropLast_concat_getLast h).symm⟩
theorem spl_snoc_at (c : UInt8) : ∀ (x : By), spl c (x ++ [c]) = spl c x ++ [[]]
  | [] => by rw [List.nil_append, spl_at]; rfl
  | a :: l => by
    have ih := spl_snoc_at c l
    by_cases h : a = c
    · subst h
      rw [List.cons_append, spl_at, spl_at, ih]
      rfl
    · obtain ⟨z, r, hz⟩ := spl_ne c l
      rw [List.cons_append, spl_other h hz, spl_other h (x := z) (r := r ++ [[]]) (by rw [ih, hz]; rfl)]
      rfl
theorem spl_snoc_other {b c : UInt8} (hb : b ≠ c) : ∀ (x : By) (pre : List By) (y : By), spl c x = pre ++ [y] → spl c (x ++ [b]) = pre ++ [y ++ [b]]
  | [], pre, y, h => by
    have h1 : ([] : List By) ++ [[]] = pre ++ [y] := h
    obtain ⟨rfl, rfl⟩ := snoc_eq h1
    rw [List.nil_append, spl_none [b] (by simpa using hb)]
    rfl
  | a :: l, pre, y, h => by
    obtain ⟨z, r, hz⟩ := spl_ne c l
    obtain ⟨p, u, hp⟩ := snoc_ex (spl c l) (by rw [hz]; simp)
    have ih := spl_snoc_other hb l p u hp
    by_cases ha : a = c
    · subst ha
      rw [spl_at, hp] at h
      obtain ⟨rfl, rfl⟩ := snoc_eq (a := [] :: p) (b := pre) h
      rw [List.cons_append, spl_at, ih]
      rfl
    · rw [spl_other ha hz] at h
      rw [hz] at hp
      cases p with
      | nil =>
        simp only [List.nil_append, List.cons.injEq] at hp
        obtain ⟨rfl, rfl⟩ := hp
        obtain ⟨rfl, rfl⟩ := snoc_eq (a := []) (b := pre) h
        rw [List.cons_append, spl_other ha (x := z ++ [b]) (r := []) ih]
        rfl
      | cons p0 ps =>
        simp only [List.cons_append, List.cons.injEq] at hp
        obtain ⟨rfl, rfl⟩ := hp
        obtain ⟨rfl, rfl⟩ := snoc_eq (a := (a :: z) :: ps) (b := pre) h
        rw [List.cons_append, spl_other ha (x := z) (r := ps ++ [u ++ [b]]) ih]
        rfl
/-- two letters of a text of bytes -/
theorem enc_two (dt : By) (j : Nat) (b : UInt8) (h : dt[j]? = some b) : ((Lib.Hx.encode dt).drop (2 * j)).take 2 = [Lib.Hx.digit (b.toNat / 16), Lib.Hx.digit (b.toNat % 16)] := by
  obtain ⟨h1, h2⟩ := Lib.Hx.encode_at dt j b h
  have e1 := (List.getElem?_eq_some_iff.1 h1)
  have e2 := (List.getElem?_eq_some_iff.1 h2)
  rw [List.drop_eq_getElem_cons e1.1, List.drop_eq_getElem_cons e2.1, e1.2, e2.2]
  rfl
/-- the data after so many pairs -/
def DP (c : By) (j : Nat) (ds : By) : Prop := ∀ dt, c = hx dt → ds = dt.take j
theorem dp_step {c : By} {j : Nat} {ds : By} (h : DP c j ds) (hj : 2 * j + 1 < c.length) {n : Nat} (hn : ∀ m, acc ((c.drop (2 * j)).take 2) = some m → n = m) : DP c (j + 1) (ds ++ [UInt8.ofNat n]) := by
  intro dt hc
  rw [h dt hc]
  have hne : dt ≠ [] := fun e => by rw [hc, e] at hj; simp [hx] at hj
  have hce : c = Lib.Hx.encode dt := by rw [hc]; unfold hx; rw [if_neg hne]
  have hlen := Lib.Hx.encode_length dt
  rw [← hce] at hlen
  have hlt : j < dt.length := by omega
  have hb : dt[j]? = some dt[j] := List.getElem?_eq_getElem hlt
  have h2 := enc_two dt j _ hb
  rw [← hce] at h2
  have h3 := hn _ (by rw [h2]; exact acc_two _ _ (by have := dt[j].toNat_lt; omega) (by omega))
  rw [List.take_add_one, hb, h3, show dt[j].toNat / 16 * 16 + dt[j].toNat % 16 = dt[j].toNat by omega]
  simp
theorem dp_end {c : By} {j : Nat} {ds : By} (h : DP c j ds) (hj : ¬ 2 * j + 1 < c.length) : ∀ dt, c = hx dt → ds = dt := by
  intro dt hc
  rw [h dt hc]
  by_cases hne : dt = []
  · rw [hne]; simp
  · have hce : c = Lib.Hx.encode dt := by rw [hc]; unfold hx; rw [if_neg hne]
    have hlen := Lib.Hx.encode_length dt
    rw [← hce] at hlen
    exact List.take_of_length_le (by omega)
theorem wrap_i64 {m : Nat} (h : m ≤ 9223372036854775807) : IntKind.i64.wrap (m : Int) = (m : Int) := (IntWalk.i64_left _).trans (IntWalk.wrap64_in _ ⟨by omega, by omega⟩)
theorem row_cell {w0 w : World} {L : List It} (H : Sep w0 w L) (i : Nat) {E n c g k : Nat} {xs : List Value} {u : Value} (hi : L[i]? = some (.row E 1 (.slice (some ⟨g, 0, none⟩) n c) n xs)) (h0 : 0 < n) (hk : xs[k]? = some u) : w.cell? ⟨g, k, none⟩ = some u := by
  obtain ⟨g', hg, _, h⟩ := H.rowAt i hi h0
  cases hg
  exact (h k).1 u hk
/-- the bytes' block as an object -/
theorem bytes_obj (x : By) (S : ByteArray) (hS : bs x = S) (w : World) : ∃ (c : Nat) (o : Obj), (convert 9 40 (.string S)).run Tryz.prog w = .ok (.slice (some ⟨w.heap.size, 0, none⟩) x.length c) (w.drew.alloc o) ∧ ∀ (u : World) (g : Nat), u.heap[g]? = some o → ∀ (i : Nat) (b : UInt8), x[i]? = some b → u.cell? ⟨g, i, none⟩ = some (.int .u8 (b.toNat : Int)) := by
  subst hS
  have hrun := run_bytes_of_string w 9 40 5 (bs x) Tryz.underlying9 Tryz.underlying40 Tryz.underlying5
  rw [bs_size] at hrun
  refine ⟨_, _, hrun, fun u g hh i b hb => ?_⟩
  obtain ⟨hi0, hib⟩ := List.getElem?_eq_some_iff.1 hb
  have hi : i < (bs x).size := by rw [bs_size]; exact hi0
  rw [cell_of_row _ _ i _ _ _ hh, bytesRow_at (bs x) _ i hi]
  have e : (bs x).data[i]'hi = b := by
    rw [← hib]
    simp [bs]
  rw [e]
theorem string_info : (Tryz.prog.info? 9).map (fun i => (i.zero, i.size, i.bytes)) = some (some (.string ⟨#[]⟩), 1, 16) := by kernel_rfl
/-- what yread's loops find: the result, the words, the text's bytes -/
def YI (gr : Nat) (A : Option Addr) (n c : Nat) (ws : List By) (gb : Nat) (ob : Obj) : List It :=
  [.cells gr 53 [.int .i64 0, .string ⟨#[]⟩, .string ⟨#[]⟩, .int .i64 0], .row 9 1 (.slice A n c) n (ws.map wcell), .obj gb ob]
def YJ (gr ga n c : Nat) (ws : List By) (gb : Nat) (ob : Obj) (go_ : Nat) (cs : List Value) : List It :=
  [.cells gr 53 [.int .i64 0, .string ⟨#[]⟩, .string ⟨#[]⟩, .int .i64 0], .row 9 1 (.slice (some ⟨ga, 0, none⟩) n c) n (ws.map wcell), .obj gb ob, .cells go_ 53 cs]
theorem yline_op (o : So.Op) (h : OkO o) (w : World) (hg : Gl w) : Calls Tryz.prog 60 #[.agg #[.int .i64 o.kind, .string o.nm, .string o.dt, .int .i64 o.keep]] w (Ret w (LineR o)) :=
  yline_any o.kind o.nm.data.toList o.dt.data.toList o.keep o.nm o.dt (bs_of _) (bs_of _) (by rw [size_data]; exact h.1) (by rw [size_data]; exact h.2.1) h.2.2.1 h.2.2.2 w hg
theorem yr_true {x : By} {o : So.Op} {S : ByteArray} (hS : bs x = S) (h : Rdl x o) (hk : lk o = true) (hl : bs (lt o) = S) : Reads x o := rdl_reads h hk (bs_inj (by rw [hl, hS]))
theorem yr_false {x : By} {o : So.Op} {S : ByteArray} (hS : bs x = S) (h : Rdl x o) (hk : lk o = false ∨ bs (lt o) ≠ S) : ∀ o', ¬ Reads x o' := fun o' h' => by
  obtain ⟨h1, _⟩ := reads_one h h'
  rcases hk with hk | hk
  · rw [h1.2.1] at hk; cases hk
  · exact hk (by rw [h1.2.2, hS])
theorem ne_str {a b : ByteArray} (h : a ≠ b) : (a.toList == b.toList) = false := by
  rw [ByteArray.toList_eq, ByteArray.toList_eq]
  have : a.data.toList ≠ b.data.toList := fun e => h (ByteArray.ext (Array.ext' e))
  simpa using this
/-- what is known of an answer: (op, is it one) -/
def YRet (x : By) (w : World) (e : Ending) (w' : World) : Prop := ∃ (o : So.Op) (ok : Bool), e = .returned (.tuple #[.agg #[.int .i64 o.kind, .string o.nm, .string o.dt, .int .i64 o.keep], .bool ok]) ∧ (ok = true → Reads x o) ∧ (ok = false → ∀ o', ¬ Reads x o') ∧ OkO o ∧ Below w.heap.size w w'

set_option maxRecDepth 100000 in
set_option maxHeartbeats 6400000 in
theorem yread_any (x : By) (S : ByteArray) (hS : bs x = S) (hl : x.length ≤ 67108865) (w : World) (hg : Gl w) :
    Calls Tryz.prog 40 #[.string S] w (YRet x w) := by
  obtain ⟨ti, hti, t0, t1, t2⟩ := info_parts string_info
  have h1 := (Sep.nil_ w).new 53 [.int .i64 0, .string ⟨#[]⟩, .string ⟨#[]⟩, .int .i64 0]
  have h2 := h1.newRow 9 1 1 [.string ⟨#[]⟩] rfl (by simp [maxLen])
  have e1 : (w.alloc (.cells [Value.int .i64 0, .string ⟨#[]⟩, .string ⟨#[]⟩, .int .i64 0].toArray 53)).heap.size = w.heap.size + 1 := by simp
  rw [e1] at h2
  obtain ⟨W2, hW2⟩ : ∃ W2, ((w.alloc (.cells #[.int .i64 0, .string ⟨#[]⟩, .string ⟨#[]⟩, .int .i64 0] 53)).alloc (.cells #[.string ⟨#[]⟩] 9)) = W2 := ⟨_, rfl⟩
  have h3 : Sep w W2 _ := hW2 ▸ h2
  obtain ⟨cb0, ob, hcv, hcell⟩ := bytes_obj x S hS W2
  have h4 := (h3.drew).newObj ob
  obtain ⟨gb, hgb⟩ : ∃ gb, W2.heap.size = gb := ⟨_, rfl⟩
  have h5 : Sep w ((W2.alloc ob).drew) (YI w.heap.size (some ⟨w.heap.size + 1, 0, none⟩) 1 1 [[]] gb ob) := by rw [← hgb]; exact h4
  rw [hgb] at hcv
  obtain ⟨N, hN⟩ : ∃ N, x.length = N := ⟨_, rfl⟩
  rw [hN] at hcv hl
  rw [← hW2] at hcv h5
  have H5 := Lib.hid h5
  have HC := Lib.hid hcell
  have HN := Lib.hid hN
  have HG := Lib.hid hg
  have HSS := Lib.hid hS
  clear h1 h2 h3 h4 h5 e1 hcell hN hg hS hgb hW2
  go_enter Tryz.func40, Tryz.ntmps40
  go_wp2
  generalize (((w.alloc (.cells #[.int .i64 0, .string ⟨#[]⟩, .string ⟨#[]⟩, .int .i64 0] 53)).alloc (.cells #[.string ⟨#[]⟩] 9)).alloc ob).drew = w1 at H5 ⊢
  generalize w.heap.size + 1 = ga0 at H5 ⊢
  generalize w.heap.size = gr at H5 ⊢
  clear hcv
  go_loopg [4, 19] N (fun g ws i wr => ∃ (k n m : Nat) (pre : List By) (y : By) (A : Option Addr) (c : Nat), k ≤ N ∧ g = N - k ∧ ws = .slice A n c ∧ i = .int .i64 k ∧ Hid (spl 32 (x.take k) = pre ++ [y]) ∧ Hid (pre.length = m) ∧ Hid (n = m + 1) ∧ n ≤ k + 1 ∧ n ≤ c ∧ Sep w wr (YI gr A n c (pre ++ [y]) gb ob))
  case atStart => exact ⟨0, 1, 0, [], [], _, 1, Nat.zero_le _, rfl, rfl, rfl, Lib.hid rfl, Lib.hid rfl, Lib.hid rfl, by omega, by omega, H5.out⟩
  case round =>
    obtain ⟨k, n, m, pre, y, A, c, hk, rfl, rfl, rfl, HX, HM, HM1, hnk, hnc, hs⟩ := hrel
    have HS := Lib.hid hs
    clear hs
    by_cases hlt : k < N
    · obtain ⟨b, hb⟩ : ∃ b, x[k]? = some b := ⟨_, List.getElem?_eq_getElem (by rw [HN.out]; exact hlt)⟩
      have d1 : wr.cell? ⟨gb, k, none⟩ = some (.int .u8 (b.toNat : Int)) := HC.out wr gb (HS.out.all 2 _ rfl) k b hb
      have HTK : Hid (x.take (k + 1) = x.take k ++ [b]) := Lib.hid (by rw [List.take_add_one, hb]; rfl)
      have i0 : (0 : Int) ≤ (k : Int) := by omega
      have i1 : (k : Int) < (N : Int) := by omega
      have HN0 : Hid (0 < n) := Lib.hid (by have := HM1.out; omega)
      have HYL : Hid (y.length ≤ 67108865) := Lib.hid (by
        have h1 := word_len 32 (x.take k) y (by rw [HX.out]; simp)
        have h2 : (x.take k).length ≤ k := List.length_take_le _ _
        omega)
      obtain ⟨ga, hg', _, _⟩ := HS.out.rowAt 1 rfl HN0.out
      subst hg'
      clear hb
      by_cases h32 : b = 32
      · subst h32
        have HNX : Hid (spl 32 (x.take (k + 1)) = (pre ++ [y]) ++ [[]]) := Lib.hid (by rw [HTK.out, spl_snoc_at, HX.out])
        have hnew := Rd.of_own (own_new wr 9 #[.string ⟨#[]⟩] 1 1 rfl (by simp [maxLen]) (Nat.le_refl _))
        have HM2 : Hid ((pre ++ [y]).length = n) := Lib.hid (by have := HM.out; have := HM1.out; simp; omega)
        go_wp2_with (at_builtin; refine wpList_append_sep (HS.out.alloc _) 1 rfl (.tmp 25) (.tmp 26) 22 rfl 9 ti (.string ⟨#[]⟩) 1 16 Tryz.underlying22 hti t0 t1 t2 rfl (by omega) _ n _ rfl rfl _ _ 1 1 _ rfl hnew (by simp [Value.oneCell']) (by simp only [maxLen]; omega) (by omega) ?_; intro A6 c6 w3 hc6 hsz3 hs3)
        go_roundg (N - (k + 1))
        case measure => omega
        case rel => exact ⟨k + 1, n + 1, n, pre ++ [y], [], A6, c6, by omega, rfl, rfl, by go_num, HNX, HM2, Lib.hid rfl, by omega, hc6, by have h := hs3; unfold YI; rw [List.map_append]; exact h⟩
      · have HNX : Hid (spl 32 (x.take (k + 1)) = pre ++ [y ++ [b]]) := Lib.hid (by rw [HTK.out]; exact spl_snoc_other h32 _ _ _ HX.out)
        have h32' : ((b.toNat : Int) == 32) = false := by
          have : b.toNat ≠ 32 := fun e => h32 (UInt8.toNat_inj.1 e)
          simp
          omega
        have hob := fun W => one_byte b W
        obtain ⟨cb, hcb⟩ : ∃ cb, b.toNat = cb := ⟨_, rfl⟩
        have hcb2 : cb < 256 := by rw [← hcb]; exact b.toNat_lt
        obtain ⟨Y, hY⟩ : ∃ Y, bs y = Y := ⟨_, rfl⟩
        obtain ⟨T, hT⟩ : ∃ T, bs [b] = T := ⟨_, rfl⟩
        obtain ⟨Z, hZ⟩ : ∃ Z, bs (y ++ [b]) = Z := ⟨_, rfl⟩
        have hz : Y ++ T = Z := by rw [← hY, ← hT, ← hZ, bs_cat]
        have z1 : Y.size + T.size ≤ 9223372036854775807 := by
          rw [← hY, ← hT, bs_size, bs_size]
          have := HYL.out
          simp
          omega
        have z2 : ¬ 9223372036854775807 < Y.size + T.size := by omega
        rw [hcb] at d1 h32'
        simp only [hcb, hT] at hob
        have HOB := Lib.hid hob
        have v1 : (n : Int) - 1 = (m : Int) := by have := HM.out; have := HM1.out; omega
        have i2 : (0 : Int) ≤ (m : Int) := by omega
        have v2 := wrap_i64 (show m ≤ 9223372036854775807 by omega)
        have i3 : (m : Int) < (n : Int) := by omega
        have HY : Hid (((pre ++ [y]).map wcell)[m]? = some (.string Y)) := Lib.hid (by
          rw [List.map_append, List.getElem?_append_right (by rw [List.length_map]; have := HM.out; omega), List.length_map, HM.out]
          simp [wcell, hY])
        have HZS : Hid (((pre ++ [y]).map wcell).set m (.string Z) = (pre ++ [y ++ [b]]).map wcell) := Lib.hid (by
          rw [List.map_append, List.set_append_right _ _ (by rw [List.length_map]; have := HM.out; omega), List.length_map, HM.out, List.map_append]
          simp [wcell, hZ])
        clear hob hcb hY hT hZ h32
        go_upto_region 7 with (fail)
        refine wp_region_inv0 (fun ac0 L ac w' => ∃ x28 x29 x30 x31 x32 x33 x34 x35 x36 x37 x38, ac = turn ac0 [(28, x28), (29, x29), (30, x30), (31, x31), (32, x32), (33, x33), (34, x34), (35, x35), (36, x36), (37, x37), (38, x38)] ∧ (L 0 = true → x28 = .slice (some ⟨ga, 0, none⟩) n c) ∧ (L 1 = true → x29 = .slice (some ⟨ga, 0, none⟩) n c) ∧ (L 2 = true → x30 = .int .i64 (n : Int)) ∧ (L 3 = true → x31 = .int .i64 (m : Int)) ∧ (L 4 = true → x32 = .pointer (some ⟨ga, m, none⟩)) ∧ (L 5 = true → x33 = .string Y) ∧ (L 6 = true → x34 = .int .u8 (cb : Int)) ∧ (L 8 = true → x36 = .string T) ∧ (L 9 = true → x37 = .string Z) ∧ (L 10 = true → x38 = .pointer (some ⟨ga, m, none⟩)) ∧ (L 2 = true → L 1 = true) ∧ (L 3 = true → L 2 = true) ∧ (L 4 = true → L 0 = true ∧ L 3 = true) ∧ (L 5 = true → L 4 = true) ∧ (L 7 = true → L 6 = true) ∧ (L 8 = true → L 7 = true) ∧ (L 9 = true → L 5 = true ∧ L 8 = true) ∧ (L 10 = true → L 0 = true ∧ L 1 = true ∧ L 2 = true ∧ L 3 = true ∧ L 4 = true ∧ L 5 = true ∧ L 6 = true ∧ L 7 = true ∧ L 8 = true ∧ L 9 = true) ∧ (L 11 = true → L 0 = true ∧ L 1 = true ∧ L 2 = true ∧ L 3 = true ∧ L 4 = true ∧ L 5 = true ∧ L 6 = true ∧ L 7 = true ∧ L 8 = true ∧ L 9 = true ∧ L 10 = true) ∧ (if L 11 = true then (Sep w w' ((YI gr (some ⟨ga, 0, none⟩) n c (pre ++ [y]) gb ob).set 1 (.row 9 1 (.slice (some ⟨ga, 0, none⟩) n c) n (((pre ++ [y]).map wcell).set m (.string Z))))) else (if L 7 = true then (∃ gv, x35 = .slice (some ⟨gv, 0, none⟩) 1 1 ∧ Sep w w' (YI gr (some ⟨ga, 0, none⟩) n c (pre ++ [y]) gb ob) ∧ (convert 40 9 (.slice (some ⟨gv, 0, none⟩) 1 1)).run Tryz.prog w' = .ok (.string T) w') else Sep w w' (YI gr (some ⟨ga, 0, none⟩) n c (pre ++ [y]) gb ob)))) rfl (by kernel_rfl) ?_ ?_ ?_
        · simp only [turn, List.foldl_cons, List.foldl_nil, List.setIfInBounds_toArray, List.set_cons_succ, List.set_cons_zero]
          exact ⟨_, _, _, _, _, _, _, _, _, _, _, rfl, (fun h => absurd h (by decide)), (fun h => absurd h (by decide)), (fun h => absurd h (by decide)), (fun h => absurd h (by decide)), (fun h => absurd h (by decide)), (fun h => absurd h (by decide)), (fun h => absurd h (by decide)), (fun h => absurd h (by decide)), (fun h => absurd h (by decide)), (fun h => absurd h (by decide)), (fun h => absurd h (by decide)), (fun h => absurd h (by decide)), (fun h => absurd h (by decide)), (fun h => absurd h (by decide)), (fun h => absurd h (by decide)), (fun h => absurd h (by decide)), (fun h => absurd h (by decide)), (fun h => absurd h (by decide)), (fun h => absurd h (by decide)), by simpa using HS.out.drew⟩
        · rintro L ac w' i o ⟨x28, x29, x30, x31, x32, x33, x34, x35, x36, x37, x38, ha, p0, p1, p2, p3, p4, p5, p6, p8, p9, p10, q2, q3, q4, q5, q7, q8, q9, q10, q11, hS⟩ ho hi he
          simp only [turn, List.foldl_cons, List.foldl_nil, List.setIfInBounds_toArray, List.set_cons_succ, List.set_cons_zero] at ha ⊢
          subst ha
          rcases i with _|_|_|_|_|_|_|_|_|_|_|_|i
          all_goals cases ho
          all_goals simp [Region.binds] at he
          · have h4 : L 4 = false := by cases hh : L 4 with | false => rfl | true => (have hq := q4 hh; simp [hi] at hq)
            have h10 : L 10 = false := by cases hh : L 10 with | false => rfl | true => (have hq := q10 hh; simp [hi] at hq)
            have h11 : L 11 = false := by cases hh : L 11 with | false => rfl | true => (have hq := q11 hh; simp [hi] at hq)
            have h5 : L 5 = false := by cases hh : L 5 with | false => rfl | true => (have hq := q5 hh; simp [h4] at hq)
            have h9 : L 9 = false := by cases hh : L 9 with | false => rfl | true => (have hq := q9 hh; simp [h5] at hq)
            refine wpOp_step rfl (fun K hK => ?_)
            go_simp
            exact hK _ _ ⟨_, _, _, _, _, _, _, _, _, _, _, rfl, (fun _ => rfl), (by first | exact p1 | exact fun _ => rfl), (by first | exact p2 | exact fun _ => rfl), (by first | exact p3 | exact fun _ => rfl), (by simp [h4]), (by simp [h5]), (by first | exact p6 | exact fun _ => rfl), (by first | exact p8 | exact fun _ => rfl), (by simp [h9]), (by simp [h10]), (by simpa using q2), (by simpa using q3), (by simp [h4]), (by simp [h5]), (by simpa using q7), (by simpa using q8), (by simp [h9]), (by simp [h10]), (by simp [h11]), (by simpa [h4, h10, h11, h5, h9] using hS)⟩
          · have h2 : L 2 = false := by cases hh : L 2 with | false => rfl | true => (have hq := q2 hh; simp [hi] at hq)
            have h10 : L 10 = false := by cases hh : L 10 with | false => rfl | true => (have hq := q10 hh; simp [hi] at hq)
            have h11 : L 11 = false := by cases hh : L 11 with | false => rfl | true => (have hq := q11 hh; simp [hi] at hq)
            have h3 : L 3 = false := by cases hh : L 3 with | false => rfl | true => (have hq := q3 hh; simp [h2] at hq)
            have h4 : L 4 = false := by cases hh : L 4 with | false => rfl | true => (have hq := q4 hh; simp [h3] at hq)
            have h5 : L 5 = false := by cases hh : L 5 with | false => rfl | true => (have hq := q5 hh; simp [h4] at hq)
            have h9 : L 9 = false := by cases hh : L 9 with | false => rfl | true => (have hq := q9 hh; simp [h5] at hq)
            refine wpOp_step rfl (fun K hK => ?_)
            go_simp
            exact hK _ _ ⟨_, _, _, _, _, _, _, _, _, _, _, rfl, (by first | exact p0 | exact fun _ => rfl), (fun _ => rfl), (by simp [h2]), (by simp [h3]), (by simp [h4]), (by simp [h5]), (by first | exact p6 | exact fun _ => rfl), (by first | exact p8 | exact fun _ => rfl), (by simp [h9]), (by simp [h10]), (by simp [h2]), (by simp [h3]), (by simp [h4]), (by simp [h5]), (by simpa using q7), (by simpa using q8), (by simp [h9]), (by simp [h10]), (by simp [h11]), (by simpa [h2, h10, h11, h3, h4, h5, h9] using hS)⟩
          · have h3 : L 3 = false := by cases hh : L 3 with | false => rfl | true => (have hq := q3 hh; simp [hi] at hq)
            have h10 : L 10 = false := by cases hh : L 10 with | false => rfl | true => (have hq := q10 hh; simp [hi] at hq)
            have h11 : L 11 = false := by cases hh : L 11 with | false => rfl | true => (have hq := q11 hh; simp [hi] at hq)
            have h4 : L 4 = false := by cases hh : L 4 with | false => rfl | true => (have hq := q4 hh; simp [h3] at hq)
            have h5 : L 5 = false := by cases hh : L 5 with | false => rfl | true => (have hq := q5 hh; simp [h4] at hq)
            have h9 : L 9 = false := by cases hh : L 9 with | false => rfl | true => (have hq := q9 hh; simp [h5] at hq)
            obtain rfl := p1 (by simp [he])
            refine wpOp_step rfl (fun K hK => ?_)
            go_simp
            exact hK _ _ ⟨_, _, _, _, _, _, _, _, _, _, _, rfl, (by first | exact p0 | exact fun _ => rfl), (by first | exact p1 | exact fun _ => rfl), (fun _ => rfl), (by simp [h3]), (by simp [h4]), (by simp [h5]), (by first | exact p6 | exact fun _ => rfl), (by first | exact p8 | exact fun _ => rfl), (by simp [h9]), (by simp [h10]), (by simp [he]), (by simp [h3]), (by simp [h4]), (by simp [h5]), (by simpa using q7), (by simpa using q8), (by simp [h9]), (by simp [h10]), (by simp [h11]), (by simpa [h3, h10, h11, h4, h5, h9] using hS)⟩
          · have h4 : L 4 = false := by cases hh : L 4 with | false => rfl | true => (have hq := q4 hh; simp [hi] at hq)
            have h10 : L 10 = false := by cases hh : L 10 with | false => rfl | true => (have hq := q10 hh; simp [hi] at hq)
            have h11 : L 11 = false := by cases hh : L 11 with | false => rfl | true => (have hq := q11 hh; simp [hi] at hq)
            have h5 : L 5 = false := by cases hh : L 5 with | false => rfl | true => (have hq := q5 hh; simp [h4] at hq)
            have h9 : L 9 = false := by cases hh : L 9 with | false => rfl | true => (have hq := q9 hh; simp [h5] at hq)
            obtain rfl := p2 (by simp [he])
            refine wpOp_step rfl (fun K hK => ?_)
            go_simp
            exact hK _ _ ⟨_, _, _, _, _, _, _, _, _, _, _, rfl, (by first | exact p0 | exact fun _ => rfl), (by first | exact p1 | exact fun _ => rfl), (by first | exact p2 | exact fun _ => rfl), (fun _ => rfl), (by simp [h4]), (by simp [h5]), (by first | exact p6 | exact fun _ => rfl), (by first | exact p8 | exact fun _ => rfl), (by simp [h9]), (by simp [h10]), (by simpa using q2), (by simp [he]), (by simp [h4]), (by simp [h5]), (by simpa using q7), (by simpa using q8), (by simp [h9]), (by simp [h10]), (by simp [h11]), (by simpa [h4, h10, h11, h5, h9] using hS)⟩
          · have h5 : L 5 = false := by cases hh : L 5 with | false => rfl | true => (have hq := q5 hh; simp [hi] at hq)
            have h10 : L 10 = false := by cases hh : L 10 with | false => rfl | true => (have hq := q10 hh; simp [hi] at hq)
            have h11 : L 11 = false := by cases hh : L 11 with | false => rfl | true => (have hq := q11 hh; simp [hi] at hq)
            have h9 : L 9 = false := by cases hh : L 9 with | false => rfl | true => (have hq := q9 hh; simp [h5] at hq)
            obtain rfl := p0 (by simp [he])
            obtain rfl := p3 (by simp [he])
            refine wpOp_step rfl (fun K hK => ?_)
            go_simp
            exact hK _ _ ⟨_, _, _, _, _, _, _, _, _, _, _, rfl, (by first | exact p0 | exact fun _ => rfl), (by first | exact p1 | exact fun _ => rfl), (by first | exact p2 | exact fun _ => rfl), (by first | exact p3 | exact fun _ => rfl), (fun _ => rfl), (by simp [h5]), (by first | exact p6 | exact fun _ => rfl), (by first | exact p8 | exact fun _ => rfl), (by simp [h9]), (by simp [h10]), (by simpa using q2), (by simpa using q3), (by simp [he]), (by simp [h5]), (by simpa using q7), (by simpa using q8), (by simp [h9]), (by simp [h10]), (by simp [h11]), (by simpa [h5, h10, h11, h9] using hS)⟩
          · have h9 : L 9 = false := by cases hh : L 9 with | false => rfl | true => (have hq := q9 hh; simp [hi] at hq)
            have h10 : L 10 = false := by cases hh : L 10 with | false => rfl | true => (have hq := q10 hh; simp [hi] at hq)
            have h11 : L 11 = false := by cases hh : L 11 with | false => rfl | true => (have hq := q11 hh; simp [hi] at hq)
            obtain rfl := p4 (by simp [he])
            have f0 : w'.cell? ⟨ga, m, none⟩ = some (.string Y) := by
              rw [if_neg (by simp [h11])] at hS
              split at hS
              · obtain ⟨gv, _, S, _⟩ := hS
                exact row_cell S 1 rfl HN0.out HY.out
              · exact row_cell hS 1 rfl HN0.out HY.out
            refine wpOp_step rfl (fun K hK => ?_)
            go_simp
            exact hK _ _ ⟨_, _, _, _, _, _, _, _, _, _, _, rfl, (by first | exact p0 | exact fun _ => rfl), (by first | exact p1 | exact fun _ => rfl), (by first | exact p2 | exact fun _ => rfl), (by first | exact p3 | exact fun _ => rfl), (by first | exact p4 | exact fun _ => rfl), (fun _ => rfl), (by first | exact p6 | exact fun _ => rfl), (by first | exact p8 | exact fun _ => rfl), (by simp [h9]), (by simp [h10]), (by simpa using q2), (by simpa using q3), (by simpa using q4), (by simp [he]), (by simpa using q7), (by simpa using q8), (by simp [h9]), (by simp [h10]), (by simp [h11]), (by simpa [h9, h10, h11] using hS)⟩
          · have h7 : L 7 = false := by cases hh : L 7 with | false => rfl | true => (have hq := q7 hh; simp [hi] at hq)
            have h10 : L 10 = false := by cases hh : L 10 with | false => rfl | true => (have hq := q10 hh; simp [hi] at hq)
            have h11 : L 11 = false := by cases hh : L 11 with | false => rfl | true => (have hq := q11 hh; simp [hi] at hq)
            have h8 : L 8 = false := by cases hh : L 8 with | false => rfl | true => (have hq := q8 hh; simp [h7] at hq)
            have h9 : L 9 = false := by cases hh : L 9 with | false => rfl | true => (have hq := q9 hh; simp [h8] at hq)
            refine wpOp_step rfl (fun K hK => ?_)
            go_simp
            exact hK _ _ ⟨_, _, _, _, _, _, _, _, _, _, _, rfl, (by first | exact p0 | exact fun _ => rfl), (by first | exact p1 | exact fun _ => rfl), (by first | exact p2 | exact fun _ => rfl), (by first | exact p3 | exact fun _ => rfl), (by first | exact p4 | exact fun _ => rfl), (by first | exact p5 | exact fun _ => rfl), (fun _ => rfl), (by simp [h8]), (by simp [h9]), (by simp [h10]), (by simpa using q2), (by simpa using q3), (by simpa using q4), (by simpa using q5), (by simp [h7]), (by simp [h8]), (by simp [h9]), (by simp [h10]), (by simp [h11]), (by simpa [h7, h10, h11, h8, h9] using hS)⟩
          · have h8 : L 8 = false := by cases hh : L 8 with | false => rfl | true => (have hq := q8 hh; simp [hi] at hq)
            have h10 : L 10 = false := by cases hh : L 10 with | false => rfl | true => (have hq := q10 hh; simp [hi] at hq)
            have h11 : L 11 = false := by cases hh : L 11 with | false => rfl | true => (have hq := q11 hh; simp [hi] at hq)
            have h9 : L 9 = false := by cases hh : L 9 with | false => rfl | true => (have hq := q9 hh; simp [h8] at hq)
            obtain rfl := p6 (by simp [he])
            rw [if_neg (by simp [h11]), if_neg (by simp [hi])] at hS
            have hN := hS.alloc (.cells #[.int .u8 (cb : Int)] 5)
            have hc7 := HOB.out w'
            refine wpOp_step rfl (fun K hK => ?_)
            go_simp
            exact hK _ _ ⟨_, _, _, _, _, _, _, _, _, _, _, rfl, (by first | exact p0 | exact fun _ => rfl), (by first | exact p1 | exact fun _ => rfl), (by first | exact p2 | exact fun _ => rfl), (by first | exact p3 | exact fun _ => rfl), (by first | exact p4 | exact fun _ => rfl), (by first | exact p5 | exact fun _ => rfl), (by first | exact p6 | exact fun _ => rfl), (by simp [h8]), (by simp [h9]), (by simp [h10]), (by simpa using q2), (by simpa using q3), (by simpa using q4), (by simpa using q5), (by simp [he]), (by simp [h8]), (by simp [h9]), (by simp [h10]), (by simp [h11]), (by rw [if_neg (by simp [h11]), if_pos (by simp)]; exact ⟨_, rfl, hN, hc7⟩)⟩
          · have h9 : L 9 = false := by cases hh : L 9 with | false => rfl | true => (have hq := q9 hh; simp [hi] at hq)
            have h10 : L 10 = false := by cases hh : L 10 with | false => rfl | true => (have hq := q10 hh; simp [hi] at hq)
            have h11 : L 11 = false := by cases hh : L 11 with | false => rfl | true => (have hq := q11 hh; simp [hi] at hq)
            have h8 := hS
            rw [if_neg (by simp [h11]), if_pos (by simp [he])] at h8
            obtain ⟨gv, e35, _, hcv8⟩ := h8
            subst e35
            refine wpOp_step rfl (fun K hK => ?_)
            go_simp
            exact hK _ _ ⟨_, _, _, _, _, _, _, _, _, _, _, rfl, (by first | exact p0 | exact fun _ => rfl), (by first | exact p1 | exact fun _ => rfl), (by first | exact p2 | exact fun _ => rfl), (by first | exact p3 | exact fun _ => rfl), (by first | exact p4 | exact fun _ => rfl), (by first | exact p5 | exact fun _ => rfl), (by first | exact p6 | exact fun _ => rfl), (fun _ => rfl), (by simp [h9]), (by simp [h10]), (by simpa using q2), (by simpa using q3), (by simpa using q4), (by simpa using q5), (by simpa using q7), (by simp [he]), (by simp [h9]), (by simp [h10]), (by simp [h11]), (by simpa [h9, h10, h11] using hS)⟩
          · have h10 : L 10 = false := by cases hh : L 10 with | false => rfl | true => (have hq := q10 hh; simp [hi] at hq)
            have h11 : L 11 = false := by cases hh : L 11 with | false => rfl | true => (have hq := q11 hh; simp [hi] at hq)
            obtain rfl := p5 (by simp [he])
            obtain rfl := p8 (by simp [he])
            refine wpOp_step rfl (fun K hK => ?_)
            go_simp
            exact hK _ _ ⟨_, _, _, _, _, _, _, _, _, _, _, rfl, (by first | exact p0 | exact fun _ => rfl), (by first | exact p1 | exact fun _ => rfl), (by first | exact p2 | exact fun _ => rfl), (by first | exact p3 | exact fun _ => rfl), (by first | exact p4 | exact fun _ => rfl), (by first | exact p5 | exact fun _ => rfl), (by first | exact p6 | exact fun _ => rfl), (by first | exact p8 | exact fun _ => rfl), (fun _ => rfl), (by simp [h10]), (by simpa using q2), (by simpa using q3), (by simpa using q4), (by simpa using q5), (by simpa using q7), (by simpa using q8), (by simp [he]), (by simp [h10]), (by simp [h11]), (by simpa [h10, h11] using hS)⟩
          · have h11 : L 11 = false := by cases hh : L 11 with | false => rfl | true => (have hq := q11 hh; simp [hi] at hq)
            obtain rfl := p0 (by simp [he])
            obtain rfl := p3 (by simp [he])
            refine wpOp_step rfl (fun K hK => ?_)
            go_simp
            exact hK _ _ ⟨_, _, _, _, _, _, _, _, _, _, _, rfl, (by first | exact p0 | exact fun _ => rfl), (by first | exact p1 | exact fun _ => rfl), (by first | exact p2 | exact fun _ => rfl), (by first | exact p3 | exact fun _ => rfl), (by first | exact p4 | exact fun _ => rfl), (by first | exact p5 | exact fun _ => rfl), (by first | exact p6 | exact fun _ => rfl), (by first | exact p8 | exact fun _ => rfl), (by first | exact p9 | exact fun _ => rfl), (fun _ => rfl), (by simpa using q2), (by simpa using q3), (by simpa using q4), (by simpa using q5), (by simpa using q7), (by simpa using q8), (by simpa using q9), (by simp [he]), (by simp [h11]), (by simpa [h11] using hS)⟩
          · obtain rfl := p10 (by simp [he])
            obtain rfl := p9 (by simp [he])
            have t7 : L 7 = true := by simp [he]
            rw [if_neg (by simp [hi]), if_pos t7] at hS
            obtain ⟨gv, rfl, hS, _⟩ := hS
            obtain ⟨g', hg', _, hq⟩ := hS.rowAt 1 rfl HN0.out
            cases hg'
            have e0 := (hq m).1 _ HY.out
            have u0 := (hq m).2.1
            have hN := (hq m).2.2 (.string Z)
            refine wpOp_step rfl (fun K hK => ?_)
            go_simp
            exact hK _ _ ⟨_, _, _, _, _, _, _, _, _, _, _, rfl, (by first | exact p0 | exact fun _ => rfl), (by first | exact p1 | exact fun _ => rfl), (by first | exact p2 | exact fun _ => rfl), (by first | exact p3 | exact fun _ => rfl), (by first | exact p4 | exact fun _ => rfl), (by first | exact p5 | exact fun _ => rfl), (by first | exact p6 | exact fun _ => rfl), (by first | exact p8 | exact fun _ => rfl), (by first | exact p9 | exact fun _ => rfl), (by first | exact p10 | exact fun _ => rfl), (by simpa using q2), (by simpa using q3), (by simpa using q4), (by simpa using q5), (by simpa using q7), (by simpa using q8), (by simpa using q9), (by simpa using q10), (by simp [he]), (by rw [if_pos (by simp)]; exact hN)⟩
        · rintro L ac w' ⟨x28, x29, x30, x31, x32, x33, x34, x35, x36, x37, x38, ha, p0, p1, p2, p3, p4, p5, p6, p8, p9, p10, q2, q3, q4, q5, q7, q8, q9, q10, q11, hS⟩ hall
          have t7 := hall 7 (by decide)
          have t11 := hall 11 (by decide)
          rw [if_pos t11] at hS
          have hS9 := hS
          obtain rfl := p0 (hall 0 (by decide))
          obtain rfl := p1 (hall 1 (by decide))
          obtain rfl := p2 (hall 2 (by decide))
          obtain rfl := p3 (hall 3 (by decide))
          obtain rfl := p4 (hall 4 (by decide))
          obtain rfl := p5 (hall 5 (by decide))
          obtain rfl := p6 (hall 6 (by decide))
          obtain rfl := p8 (hall 8 (by decide))
          obtain rfl := p9 (hall 9 (by decide))
          obtain rfl := p10 (hall 10 (by decide))
          simp only [turn, List.foldl_cons, List.foldl_nil, List.setIfInBounds_toArray, List.set_cons_succ, List.set_cons_zero] at ha
          subst ha
          clear q2 q3 q4 q5 q7 q8 q9 q10 q11  t7 t11
          have HS9 : Hid (Sep w w' (YI gr (some ⟨ga, 0, none⟩) n c (pre ++ [y ++ [b]]) gb ob)) := Lib.hid (by rw [HZS.out] at hS9; exact hS9)
          clear hS hS9
          go_wp2
          go_roundg (N - (k + 1))
          case measure => omega
          case rel => exact ⟨k + 1, n, m, pre, y ++ [b], some ⟨ga, 0, none⟩, c, by omega, rfl, rfl, by go_num, HNX, HM, HM1, by omega, hnc, HS9.out⟩
    · obtain rfl : k = N := by omega
      have HW : Hid (spl 32 x = pre ++ [y]) := Lib.hid (by rw [← HX.out, List.take_of_length_le (by rw [HN.out]; omega)])
      have HNP : Hid (0 < n) := Lib.hid (by have := HM1.out; omega)
      obtain ⟨ga, hg', _, _⟩ := HS.out.rowAt 1 rfl HNP.out
      subst hg'
      obtain ⟨ws, hws⟩ : ∃ ws, pre ++ [y] = ws := ⟨_, rfl⟩
      rw [hws] at HW HS
      have HW0 := HW
      have HWL : Hid (ws.length = n) := Lib.hid (by rw [← hws]; have := HM.out; have := HM1.out; simp; omega)
      obtain ⟨a, r, har⟩ : ∃ a r, ws = a :: r := by
        obtain ⟨a, r, h⟩ := spl_ne 32 x
        exact ⟨a, r, by rw [← HW.out]; exact h⟩
      have HLEN : Hid (∀ y ∈ ws, y.length ≤ 67108865) := Lib.hid (fun y hy => by
        have := word_len 32 x y (by rw [HW.out]; exact hy)
        rw [HN.out] at this
        omega)
      have HWS := Lib.hid har
      have i0 : (0 : Int) < (n : Int) := by have := HNP.out; omega
      have hcnt : n ≤ 67108866 := by omega
      have H8 : Hid (Sep w (wr.alloc (.cells #[.int .i64 0, .string ⟨#[]⟩, .string ⟨#[]⟩, .int .i64 0] 53)) (YJ gr ga n c ws gb ob wr.heap.size [.int .i64 0, .string ⟨#[]⟩, .string ⟨#[]⟩, .int .i64 0])) := Lib.hid (HS.out.new 53 [.int .i64 0, .string ⟨#[]⟩, .string ⟨#[]⟩, .int .i64 0])
      have HG8 := Lib.hid (HG.out.later H8.out.below)
      clear hws har HX HM HM1 HW hnk
      go_upto_region 10 with (fail)
      clear HS
      generalize wr.alloc (.cells #[.int .i64 0, .string ⟨#[]⟩, .string ⟨#[]⟩, .int .i64 0] 53) = w8 at H8 HG8 ⊢
      generalize wr.heap.size = go_ at H8 ⊢
      have HS := H8
      clear H8
      by_cases a1 : a = pW
      · subst a1
        have E1 : ((bs pW).toList == [119, 114, 105, 116, 101]) = true := by rw [bs_toList]; rfl
        have E2 : ((bs pW).toList == [114, 101, 109, 111, 118, 101]) = false := by rw [bs_toList]; rfl
        have E3 : ((bs pW).toList == [114, 101, 97, 100]) = false := by rw [bs_toList]; rfl
        have E4 : ((bs pW).toList == [115, 121, 110, 99]) = false := by rw [bs_toList]; rfl
        have E5 : ((bs pW).toList == [99, 114, 97, 115, 104]) = false := by rw [bs_toList]; rfl
        by_cases hn : ∃ b c, r = [b, c]
        · obtain ⟨b, cw, rfl⟩ := hn
          have h3 : ((n : Int) == 3) = true := by rw [← HWL.out, HWS.out]; rfl
          have i1 : (1 : Int) < (n : Int) := by rw [← HWL.out, HWS.out]; simp
          have i2 : (2 : Int) < (n : Int) := by rw [← HWL.out, HWS.out]; simp
          have HCL := Lib.hid (HLEN.out cw (by rw [HWS.out]; simp))
          have hbl := Lib.hid (HLEN.out b (by rw [HWS.out]; simp))
          have HQ := Lib.hid (show spl 32 x = [pW, b, cw] by rw [HW0.out, HWS.out])
          obtain ⟨Lc, hLc⟩ : ∃ Lc, cw.length = Lc := ⟨_, rfl⟩
          obtain ⟨C, hC⟩ : ∃ C, bs cw = C := ⟨_, rfl⟩
          have hszC : C.size = Lc := by rw [← hC, bs_size, hLc]
          have hlc2 : Lc ≤ 67108865 := by rw [← hLc]; exact HCL.out
          have HLC := Lib.hid hLc
          have HC0 := Lib.hid hC
          clear hLc hC
          rw [HWS.out] at HS
          have HS9 := Lib.hid (setFour HS.out 3 rfl (.int .i64 1) (.string (bs b)) (.string ⟨#[]⟩) (.int .i64 0))
          have c0 := row_cell HS.out 1 rfl HNP.out (k := 0) rfl
          have c1 := row_cell HS.out 1 rfl HNP.out (k := 1) rfl
          unfold wcell at c0 c1
          have p0 := HS.out.cell 3 rfl (k := 0) rfl
          have p1 := HS.out.cell 3 rfl (k := 1) rfl
          have p2 := HS.out.cell 3 rfl (k := 2) rfl
          have p3 := HS.out.cell 3 rfl (k := 3) rfl
          have u0 := HS.out.froz 3 rfl (k := 0)
          have u1 := HS.out.froz 3 rfl (k := 1)
          have u2 := HS.out.froz 3 rfl (k := 2)
          have u3 := HS.out.froz 3 rfl (k := 3)
          go_upto_region 12 with (fail)
          clear c0 c1 p0 p1 p2 p3 u0 u1 u2 u3 HS
          generalize World.setCell _ ⟨go_, 3, none⟩ (.int .i64 0) = w9 at HS9 ⊢
          go_wp2
          go_loopg [8] (Lc + 2) (fun g i wl => ∃ (j p : Nat) (ds : By), Hid (p = 2 * j) ∧ p ≤ Lc ∧ g = Lc + 2 - p ∧ i = .int .i64 p ∧ Hid (DP cw j ds) ∧ Hid (ds.length = j) ∧ Sep w wl (YJ gr ga n c [pW, b, cw] gb ob go_ [.int .i64 1, .string (bs b), .string (bs ds), .int .i64 0]))
          case atStart => exact ⟨0, 0, [], Lib.hid rfl, by omega, rfl, rfl, Lib.hid (fun dt _ => rfl), Lib.hid rfl, HS9.out⟩
          case round =>
            obtain ⟨j, p, ds, HP, hpl, rfl, rfl, HD, HDL, hs⟩ := hrel
            have HS2 := Lib.hid hs
            clear hs
            have c2 := row_cell HS2.out 1 rfl HNP.out (k := 2) rfl
            unfold wcell at c2
            rw [HC0.out] at c2
            obtain ⟨p1, hp1⟩ : ∃ p1, p1 = p + 1 := ⟨_, rfl⟩
            obtain ⟨p2, hp2⟩ : ∃ p2, p2 = p + 2 := ⟨_, rfl⟩
            have v1 : (p : Int) + 1 = (p1 : Int) := by omega
            have v2 : (p : Int) + 2 = (p2 : Int) := by omega
            have v3 := wrap_i64 (show p1 ≤ 9223372036854775807 by omega)
            have v4 := wrap_i64 (show p2 ≤ 9223372036854775807 by omega)
            have HP1 := Lib.hid hp1
            have HP2 := Lib.hid hp2
            clear hp1 hp2
            by_cases hlt : p1 < Lc
            · have i4 : (p1 : Int) < (Lc : Int) := by omega
              have i5 : (0 : Int) ≤ (p : Int) := by omega
              have i6 : (p : Int) ≤ (p2 : Int) := by have := HP2.out; omega
              have i7 : (p2 : Int) ≤ (Lc : Int) := by have := HP2.out; have := HP1.out; omega
              obtain ⟨x2, hx2⟩ : ∃ x2, (cw.drop p).take 2 = x2 := ⟨_, rfl⟩
              have hx2l : x2.length = 2 := by
                rw [← hx2, List.length_take, List.length_drop, HLC.out]
                have := HP1.out
                omega
              have hex : C.extract p p2 = bs x2 := by
                rw [← HC0.out]
                refine bs_ext _ _ _ _ ?_
                rw [bs_data, ← hx2, List.take_drop, HP2.out, Nat.add_comm]
              have cP := Lib.hid (pu16_any x2 hx2l wr (HG.out.later HS2.out.below))
              have HX2 := Lib.hid hx2
              clear hx2 hx2l
              go_wp2_with fail
              refine cP.out.mono ?_; rintro en wb ⟨nn, ev, rfl, hb, hnn, hacc⟩
              have HDP : Hid (DP cw (j + 1) (ds ++ [UInt8.ofNat nn])) := Lib.hid (dp_step HD.out (by rw [HLC.out]; have := HP.out; have := HP1.out; omega) (fun m hm => hacc m (by rw [← HX2.out, HP.out]; exact hm)))
              have HS3 := Lib.hid (HS2.out.later hb)
              clear cP hb hacc c2 hex
              have hob := one_byte (UInt8.ofNat nn) wb
              rw [show (UInt8.ofNat nn).toNat = nn by simp; omega] at hob
              obtain ⟨D, hD⟩ : ∃ D, bs ds = D := ⟨_, rfl⟩
              obtain ⟨T, hT⟩ : ∃ T, bs [UInt8.ofNat nn] = T := ⟨_, rfl⟩
              obtain ⟨Z, hZ⟩ : ∃ Z, bs (ds ++ [UInt8.ofNat nn]) = Z := ⟨_, rfl⟩
              have hz : D ++ T = Z := by rw [← hD, ← hT, ← hZ, bs_cat]
              have z1 : D.size + T.size ≤ 9223372036854775807 := by
                rw [← hD, ← hT, bs_size, bs_size, HDL.out]
                have := HP.out
                simp
                omega
              rw [hT] at hob
              rw [hD] at HS3
              have HZ := Lib.hid hZ
              have v5 := wrap_u8 hnn
              have q2 := HS3.out.cell 3 rfl (k := 2) rfl
              have u2 := HS3.out.froz 3 rfl (k := 2)
              have HS4 := Lib.hid (HS3.out.alloc (.cells #[.int .u8 (nn : Int)] 5))
              have q3 := HS4.out.cell 3 rfl (k := 2) rfl
              have u3 := HS4.out.froz 3 rfl (k := 2)
              have HS5 := Lib.hid (HS4.out.set 3 rfl (k := 2) (.string Z))
              clear hD hT hZ
              go_wp2
              go_roundg (Lc + 2 - p2)
              case measure => have := HP2.out; have := HP1.out; omega
              case rel => exact ⟨j + 1, p2, ds ++ [UInt8.ofNat nn], Lib.hid (by rw [HP2.out, HP.out]; omega), by omega, rfl, by go_num, HDP, Lib.hid (by rw [List.length_append, HDL.out]; rfl), by rw [HZ.out]; exact HS5.out⟩
            · have i4 : ¬ (p1 : Int) < (Lc : Int) := by omega
              have hdl : ds.length ≤ 67108865 := by rw [HDL.out]; have := HP.out; omega
              have HRD : Hid (Rdl x ⟨1, bs b, bs ds, 0⟩) := Lib.hid (rdl_write HQ.out ds (dp_end HD.out (by rw [HLC.out]; have := HP.out; have := HP1.out; omega)))
              have HOK : Hid (OkO ⟨1, bs b, bs ds, 0⟩) := Lib.hid (ok_small hbl.out hdl (by omega) (by omega))
              clear hdl
              go_upto_region 26 with (fail)
              clear c2
              have HS9 := HS2
              clear HS2
              have p0 := HS9.out.cell 3 rfl (k := 0) rfl
              have p1 := HS9.out.cell 3 rfl (k := 1) rfl
              have p2 := HS9.out.cell 3 rfl (k := 2) rfl
              have p3 := HS9.out.cell 3 rfl (k := 3) rfl
              obtain ⟨LV, hLV⟩ : ∃ LV, bs (lt ⟨1, (bs b), (bs ds), 0⟩) = LV := ⟨_, rfl⟩
              obtain ⟨lv, hlv⟩ : ∃ lv, lk ⟨1, (bs b), (bs ds), 0⟩ = lv := ⟨_, rfl⟩
              have cY := yline_op ⟨1, (bs b), (bs ds), 0⟩ HOK.out _ (HG.out.later HS9.out.below)
              unfold LineR at cY
              rw [hLV, hlv] at cY
              have CY := Lib.hid cY
              have HLV := Lib.hid hLV
              have HLK := Lib.hid hlv
              clear cY hLV hlv
              go_wp2_with fail
              refine CY.out.mono ?_; rintro en wb ⟨rfl, hb⟩
              have HSa := Lib.hid (HS9.out.later hb)
              clear p0 p1 p2 p3 CY hb HS9
              have p0 := HSa.out.cell 3 rfl (k := 0) rfl
              have p1 := HSa.out.cell 3 rfl (k := 1) rfl
              have p2 := HSa.out.cell 3 rfl (k := 2) rfl
              have p3 := HSa.out.cell 3 rfl (k := 3) rfl
              have r0 := HSa.out.cell 0 rfl (k := 0) rfl
              have r1 := HSa.out.cell 0 rfl (k := 1) rfl
              have r2 := HSa.out.cell 0 rfl (k := 2) rfl
              have r3 := HSa.out.cell 0 rfl (k := 3) rfl
              have u0 := HSa.out.froz 0 rfl (k := 0)
              have u1 := HSa.out.froz 0 rfl (k := 1)
              have u2 := HSa.out.froz 0 rfl (k := 2)
              have u3 := HSa.out.froz 0 rfl (k := 3)
              have HF := Lib.hid (setFour HSa.out 0 rfl (.int .i64 1) (.string (bs b)) (.string (bs ds)) (.int .i64 0))
              have f0 := HF.out.cell 0 rfl (k := 0) rfl
              have f1 := HF.out.cell 0 rfl (k := 1) rfl
              have f2 := HF.out.cell 0 rfl (k := 2) rfl
              have f3 := HF.out.cell 0 rfl (k := 3) rfl
              cases lv with
              | false =>
                go_wp2
                refine bodyPost_ret (v := .tuple #[.agg #[.int .i64 1, .string (bs b), .string (bs ds), .int .i64 0], .bool false]) (by simp [results, Tryz.results40, asAddr, Result.andThen, go_sem, f0, f1, f2, f3]) rfl ?_
                exact ⟨⟨1, (bs b), (bs ds), 0⟩, false, rfl, (fun h => by cases h), fun _ => yr_false HSS.out HRD.out (.inl HLK.out), HOK.out, HF.out.below⟩
              | true =>
                by_cases hq : LV = S
                · have zE : (LV.toList == S.toList) = true := by rw [hq]; simp
                  have HEQ := Lib.hid hq
                  clear hq
                  go_wp2
                  refine bodyPost_ret (v := .tuple #[.agg #[.int .i64 1, .string (bs b), .string (bs ds), .int .i64 0], .bool true]) (by simp [results, Tryz.results40, asAddr, Result.andThen, go_sem, f0, f1, f2, f3]) rfl ?_
                  exact ⟨⟨1, (bs b), (bs ds), 0⟩, true, rfl, (fun _ => yr_true HSS.out HRD.out HLK.out (HLV.out.trans HEQ.out)), (fun h => by cases h), HOK.out, HF.out.below⟩
                · have zE : (LV.toList == S.toList) = false := ne_str hq
                  have HEQ := Lib.hid hq
                  clear hq
                  go_wp2
                  refine bodyPost_ret (v := .tuple #[.agg #[.int .i64 1, .string (bs b), .string (bs ds), .int .i64 0], .bool false]) (by simp [results, Tryz.results40, asAddr, Result.andThen, go_sem, f0, f1, f2, f3]) rfl ?_
                  exact ⟨⟨1, (bs b), (bs ds), 0⟩, false, rfl, (fun h => by cases h), fun _ => yr_false HSS.out HRD.out (.inr (fun e => HEQ.out (HLV.out.symm.trans e))), HOK.out, HF.out.below⟩
        · have HRD : Hid (Rdl x ⟨0, e0, e0, 0⟩) := Lib.hid (rdl_zero (fun b c h => hn ⟨b, c, by rw [HW0.out, HWS.out] at h; simpa using h⟩) (fun b h => by rw [HW0.out, HWS.out] at h; simp only [List.cons.injEq] at h; exact absurd h.1 (by decide)) (fun b h => by rw [HW0.out, HWS.out] at h; simp only [List.cons.injEq] at h; exact absurd h.1 (by decide)) (fun b h => by rw [HW0.out, HWS.out] at h; simp only [List.cons.injEq] at h; exact absurd h.1 (by decide)) (fun b h => by rw [HW0.out, HWS.out] at h; simp only [List.cons.injEq] at h; exact absurd h.1 (by decide)))
          have HOK : Hid (OkO ⟨0, e0, e0, 0⟩) := Lib.hid (ok_small (nm := []) (dt := []) (by simp) (by simp) (by omega) (by omega))
          have h3 : ((n : Int) == 3) = false := by
            have hn2 := HWL.out
            have : n ≠ 3 := fun e => by
              rw [HWS.out, e] at hn2
              match r, hn2 with
              | [b, c], _ => exact hn ⟨b, c, rfl⟩
            simp
            omega
          rw [HWS.out] at HS
          clear hn
          have c0 := row_cell HS.out 1 rfl HNP.out (k := 0) rfl
          unfold wcell at c0
          go_upto_region 26 with (fail)
          have HS9 := HS
          clear c0 HS
          have p0 := HS9.out.cell 3 rfl (k := 0) rfl
          have p1 := HS9.out.cell 3 rfl (k := 1) rfl
          have p2 := HS9.out.cell 3 rfl (k := 2) rfl
          have p3 := HS9.out.cell 3 rfl (k := 3) rfl
          obtain ⟨LV, hLV⟩ : ∃ LV, bs (lt ⟨0, ⟨#[]⟩, ⟨#[]⟩, 0⟩) = LV := ⟨_, rfl⟩
          obtain ⟨lv, hlv⟩ : ∃ lv, lk ⟨0, ⟨#[]⟩, ⟨#[]⟩, 0⟩ = lv := ⟨_, rfl⟩
          have cY := yline_op ⟨0, ⟨#[]⟩, ⟨#[]⟩, 0⟩ HOK.out _ (HG.out.later HS9.out.below)
          unfold LineR at cY
          rw [hLV, hlv] at cY
          have CY := Lib.hid cY
          have HLV := Lib.hid hLV
          have HLK := Lib.hid hlv
          clear cY hLV hlv
          go_wp2_with fail
          refine CY.out.mono ?_; rintro en wb ⟨rfl, hb⟩
          have HSa := Lib.hid (HS9.out.later hb)
          clear p0 p1 p2 p3 CY hb HS9
          have p0 := HSa.out.cell 3 rfl (k := 0) rfl
          have p1 := HSa.out.cell 3 rfl (k := 1) rfl
          have p2 := HSa.out.cell 3 rfl (k := 2) rfl
          have p3 := HSa.out.cell 3 rfl (k := 3) rfl
          have r0 := HSa.out.cell 0 rfl (k := 0) rfl
          have r1 := HSa.out.cell 0 rfl (k := 1) rfl
          have r2 := HSa.out.cell 0 rfl (k := 2) rfl
          have r3 := HSa.out.cell 0 rfl (k := 3) rfl
          have u0 := HSa.out.froz 0 rfl (k := 0)
          have u1 := HSa.out.froz 0 rfl (k := 1)
          have u2 := HSa.out.froz 0 rfl (k := 2)
          have u3 := HSa.out.froz 0 rfl (k := 3)
          have HF := Lib.hid (setFour HSa.out 0 rfl (.int .i64 0) (.string ⟨#[]⟩) (.string ⟨#[]⟩) (.int .i64 0))
          have f0 := HF.out.cell 0 rfl (k := 0) rfl
          have f1 := HF.out.cell 0 rfl (k := 1) rfl
          have f2 := HF.out.cell 0 rfl (k := 2) rfl
          have f3 := HF.out.cell 0 rfl (k := 3) rfl
          cases lv with
          | false =>
            go_wp2
            refine bodyPost_ret (v := .tuple #[.agg #[.int .i64 0, .string ⟨#[]⟩, .string ⟨#[]⟩, .int .i64 0], .bool false]) (by simp [results, Tryz.results40, asAddr, Result.andThen, go_sem, f0, f1, f2, f3]) rfl ?_
            exact ⟨⟨0, ⟨#[]⟩, ⟨#[]⟩, 0⟩, false, rfl, (fun h => by cases h), fun _ => yr_false HSS.out HRD.out (.inl HLK.out), HOK.out, HF.out.below⟩
          | true =>
            by_cases hq : LV = S
            · have zE : (LV.toList == S.toList) = true := by rw [hq]; simp
              have HEQ := Lib.hid hq
              clear hq
              go_wp2
              refine bodyPost_ret (v := .tuple #[.agg #[.int .i64 0, .string ⟨#[]⟩, .string ⟨#[]⟩, .int .i64 0], .bool true]) (by simp [results, Tryz.results40, asAddr, Result.andThen, go_sem, f0, f1, f2, f3]) rfl ?_
              exact ⟨⟨0, ⟨#[]⟩, ⟨#[]⟩, 0⟩, true, rfl, (fun _ => yr_true HSS.out HRD.out HLK.out (HLV.out.trans HEQ.out)), (fun h => by cases h), HOK.out, HF.out.below⟩
            · have zE : (LV.toList == S.toList) = false := ne_str hq
              have HEQ := Lib.hid hq
              clear hq
              go_wp2
              refine bodyPost_ret (v := .tuple #[.agg #[.int .i64 0, .string ⟨#[]⟩, .string ⟨#[]⟩, .int .i64 0], .bool false]) (by simp [results, Tryz.results40, asAddr, Result.andThen, go_sem, f0, f1, f2, f3]) rfl ?_
              exact ⟨⟨0, ⟨#[]⟩, ⟨#[]⟩, 0⟩, false, rfl, (fun h => by cases h), fun _ => yr_false HSS.out HRD.out (.inr (fun e => HEQ.out (HLV.out.symm.trans e))), HOK.out, HF.out.below⟩
      · have E1 : ((bs a).toList == [119, 114, 105, 116, 101]) = false := ne_lit a1
        by_cases a2 : a = pM
        · subst a2
          have E2 : ((bs pM).toList == [114, 101, 109, 111, 118, 101]) = true := eq_lit pM
          have E3 : ((bs pM).toList == [114, 101, 97, 100]) = false := ne_lit (by decide)
          have E4 : ((bs pM).toList == [115, 121, 110, 99]) = false := ne_lit (by decide)
          have E5 : ((bs pM).toList == [99, 114, 97, 115, 104]) = false := ne_lit (by decide)
          clear a1
          by_cases hn : ∃ b, r = [b]
          · obtain ⟨b, rfl⟩ := hn
            have h2 : ((n : Int) == 2) = true := by rw [← HWL.out, HWS.out]; rfl
            have i1 : (1 : Int) < (n : Int) := by rw [← HWL.out, HWS.out]; simp
            have HRD : Hid (Rdl x ⟨2, bs b, e0, 0⟩) := Lib.hid (rdl_remove (by rw [HW0.out, HWS.out]))
            have HOK : Hid (OkO ⟨2, bs b, e0, 0⟩) := Lib.hid (ok_small (nm := b) (dt := []) (HLEN.out b (by rw [HWS.out]; simp)) (by simp) (by omega) (by omega))
            rw [HWS.out] at HS
            have c1 := row_cell HS.out 1 rfl HNP.out (k := 1) rfl
            unfold wcell at c1
            have HS9 := Lib.hid (setFour HS.out 3 rfl (.int .i64 2) (.string (bs b)) (.string ⟨#[]⟩) (.int .i64 0))
            have c0 := row_cell HS.out 1 rfl HNP.out (k := 0) rfl
            unfold wcell at c0
            have p0 := HS.out.cell 3 rfl (k := 0) rfl
            have p1 := HS.out.cell 3 rfl (k := 1) rfl
            have p2 := HS.out.cell 3 rfl (k := 2) rfl
            have p3 := HS.out.cell 3 rfl (k := 3) rfl
            have u0 := HS.out.froz 3 rfl (k := 0)
            have u1 := HS.out.froz 3 rfl (k := 1)
            have u2 := HS.out.froz 3 rfl (k := 2)
            have u3 := HS.out.froz 3 rfl (k := 3)
            go_upto_region 26 with (fail)
            clear p0 p1 p2 p3 u0 u1 u2 u3 c0 HS
            generalize World.setCell _ ⟨go_, 3, none⟩ (.int .i64 0) = w9 at HS9 ⊢
            have p0 := HS9.out.cell 3 rfl (k := 0) rfl
            have p1 := HS9.out.cell 3 rfl (k := 1) rfl
            have p2 := HS9.out.cell 3 rfl (k := 2) rfl
            have p3 := HS9.out.cell 3 rfl (k := 3) rfl
            obtain ⟨LV, hLV⟩ : ∃ LV, bs (lt ⟨2, (bs b), ⟨#[]⟩, 0⟩) = LV := ⟨_, rfl⟩
            obtain ⟨lv, hlv⟩ : ∃ lv, lk ⟨2, (bs b), ⟨#[]⟩, 0⟩ = lv := ⟨_, rfl⟩
            have cY := yline_op ⟨2, (bs b), ⟨#[]⟩, 0⟩ HOK.out _ (HG.out.later HS9.out.below)
            unfold LineR at cY
            rw [hLV, hlv] at cY
            have CY := Lib.hid cY
            have HLV := Lib.hid hLV
            have HLK := Lib.hid hlv
            clear cY hLV hlv
            go_wp2_with fail
            refine CY.out.mono ?_; rintro en wb ⟨rfl, hb⟩
            have HSa := Lib.hid (HS9.out.later hb)
            clear p0 p1 p2 p3 CY hb HS9
            have p0 := HSa.out.cell 3 rfl (k := 0) rfl
            have p1 := HSa.out.cell 3 rfl (k := 1) rfl
            have p2 := HSa.out.cell 3 rfl (k := 2) rfl
            have p3 := HSa.out.cell 3 rfl (k := 3) rfl
            have r0 := HSa.out.cell 0 rfl (k := 0) rfl
            have r1 := HSa.out.cell 0 rfl (k := 1) rfl
            have r2 := HSa.out.cell 0 rfl (k := 2) rfl
            have r3 := HSa.out.cell 0 rfl (k := 3) rfl
            have u0 := HSa.out.froz 0 rfl (k := 0)
            have u1 := HSa.out.froz 0 rfl (k := 1)
            have u2 := HSa.out.froz 0 rfl (k := 2)
            have u3 := HSa.out.froz 0 rfl (k := 3)
            have HF := Lib.hid (setFour HSa.out 0 rfl (.int .i64 2) (.string (bs b)) (.string ⟨#[]⟩) (.int .i64 0))
            have f0 := HF.out.cell 0 rfl (k := 0) rfl
            have f1 := HF.out.cell 0 rfl (k := 1) rfl
            have f2 := HF.out.cell 0 rfl (k := 2) rfl
            have f3 := HF.out.cell 0 rfl (k := 3) rfl
            cases lv with
            | false =>
              go_wp2
              refine bodyPost_ret (v := .tuple #[.agg #[.int .i64 2, .string (bs b), .string ⟨#[]⟩, .int .i64 0], .bool false]) (by simp [results, Tryz.results40, asAddr, Result.andThen, go_sem, f0, f1, f2, f3]) rfl ?_
              exact ⟨⟨2, (bs b), ⟨#[]⟩, 0⟩, false, rfl, (fun h => by cases h), fun _ => yr_false HSS.out HRD.out (.inl HLK.out), HOK.out, HF.out.below⟩
            | true =>
              by_cases hq : LV = S
              · have zE : (LV.toList == S.toList) = true := by rw [hq]; simp
                have HEQ := Lib.hid hq
                clear hq
                go_wp2
                refine bodyPost_ret (v := .tuple #[.agg #[.int .i64 2, .string (bs b), .string ⟨#[]⟩, .int .i64 0], .bool true]) (by simp [results, Tryz.results40, asAddr, Result.andThen, go_sem, f0, f1, f2, f3]) rfl ?_
                exact ⟨⟨2, (bs b), ⟨#[]⟩, 0⟩, true, rfl, (fun _ => yr_true HSS.out HRD.out HLK.out (HLV.out.trans HEQ.out)), (fun h => by cases h), HOK.out, HF.out.below⟩
              · have zE : (LV.toList == S.toList) = false := ne_str hq
                have HEQ := Lib.hid hq
                clear hq
                go_wp2
                refine bodyPost_ret (v := .tuple #[.agg #[.int .i64 2, .string (bs b), .string ⟨#[]⟩, .int .i64 0], .bool false]) (by simp [results, Tryz.results40, asAddr, Result.andThen, go_sem, f0, f1, f2, f3]) rfl ?_
                exact ⟨⟨2, (bs b), ⟨#[]⟩, 0⟩, false, rfl, (fun h => by cases h), fun _ => yr_false HSS.out HRD.out (.inr (fun e => HEQ.out (HLV.out.symm.trans e))), HOK.out, HF.out.below⟩
          · have HRD : Hid (Rdl x ⟨0, e0, e0, 0⟩) := Lib.hid (rdl_zero (fun b c h => by rw [HW0.out, HWS.out] at h; simp only [List.cons.injEq] at h; exact absurd h.1 (by decide)) (fun b h => hn ⟨b, by rw [HW0.out, HWS.out] at h; simpa using h⟩) (fun b h => by rw [HW0.out, HWS.out] at h; simp only [List.cons.injEq] at h; exact absurd h.1 (by decide)) (fun b h => by rw [HW0.out, HWS.out] at h; simp only [List.cons.injEq] at h; exact absurd h.1 (by decide)) (fun b h => by rw [HW0.out, HWS.out] at h; simp only [List.cons.injEq] at h; exact absurd h.1 (by decide)))
            have HOK : Hid (OkO ⟨0, e0, e0, 0⟩) := Lib.hid (ok_small (nm := []) (dt := []) (by simp) (by simp) (by omega) (by omega))
            have h2 : ((n : Int) == 2) = false := nlen (fun e => by
              have hn2 := HWL.out
              rw [HWS.out, e] at hn2
              match r, hn2 with
              | [b], _ => exact hn ⟨b, rfl⟩)
            rw [HWS.out] at HS
            clear hn
            have c0 := row_cell HS.out 1 rfl HNP.out (k := 0) rfl
            unfold wcell at c0
            go_upto_region 26 with (fail)
            have HS9 := HS
            clear c0 HS
            have p0 := HS9.out.cell 3 rfl (k := 0) rfl
            have p1 := HS9.out.cell 3 rfl (k := 1) rfl
            have p2 := HS9.out.cell 3 rfl (k := 2) rfl
            have p3 := HS9.out.cell 3 rfl (k := 3) rfl
            obtain ⟨LV, hLV⟩ : ∃ LV, bs (lt ⟨0, ⟨#[]⟩, ⟨#[]⟩, 0⟩) = LV := ⟨_, rfl⟩
            obtain ⟨lv, hlv⟩ : ∃ lv, lk ⟨0, ⟨#[]⟩, ⟨#[]⟩, 0⟩ = lv := ⟨_, rfl⟩
            have cY := yline_op ⟨0, ⟨#[]⟩, ⟨#[]⟩, 0⟩ HOK.out _ (HG.out.later HS9.out.below)
            unfold LineR at cY
            rw [hLV, hlv] at cY
            have CY := Lib.hid cY
            have HLV := Lib.hid hLV
            have HLK := Lib.hid hlv
            clear cY hLV hlv
            go_wp2_with fail
            refine CY.out.mono ?_; rintro en wb ⟨rfl, hb⟩
            have HSa := Lib.hid (HS9.out.later hb)
            clear p0 p1 p2 p3 CY hb HS9
            have p0 := HSa.out.cell 3 rfl (k := 0) rfl
            have p1 := HSa.out.cell 3 rfl (k := 1) rfl
            have p2 := HSa.out.cell 3 rfl (k := 2) rfl
            have p3 := HSa.out.cell 3 rfl (k := 3) rfl
            have r0 := HSa.out.cell 0 rfl (k := 0) rfl
            have r1 := HSa.out.cell 0 rfl (k := 1) rfl
            have r2 := HSa.out.cell 0 rfl (k := 2) rfl
            have r3 := HSa.out.cell 0 rfl (k := 3) rfl
            have u0 := HSa.out.froz 0 rfl (k := 0)
            have u1 := HSa.out.froz 0 rfl (k := 1)
            have u2 := HSa.out.froz 0 rfl (k := 2)
            have u3 := HSa.out.froz 0 rfl (k := 3)
            have HF := Lib.hid (setFour HSa.out 0 rfl (.int .i64 0) (.string ⟨#[]⟩) (.string ⟨#[]⟩) (.int .i64 0))
            have f0 := HF.out.cell 0 rfl (k := 0) rfl
            have f1 := HF.out.cell 0 rfl (k := 1) rfl
            have f2 := HF.out.cell 0 rfl (k := 2) rfl
            have f3 := HF.out.cell 0 rfl (k := 3) rfl
            cases lv with
            | false =>
              go_wp2
              refine bodyPost_ret (v := .tuple #[.agg #[.int .i64 0, .string ⟨#[]⟩, .string ⟨#[]⟩, .int .i64 0], .bool false]) (by simp [results, Tryz.results40, asAddr, Result.andThen, go_sem, f0, f1, f2, f3]) rfl ?_
              exact ⟨⟨0, ⟨#[]⟩, ⟨#[]⟩, 0⟩, false, rfl, (fun h => by cases h), fun _ => yr_false HSS.out HRD.out (.inl HLK.out), HOK.out, HF.out.below⟩
            | true =>
              by_cases hq : LV = S
              · have zE : (LV.toList == S.toList) = true := by rw [hq]; simp
                have HEQ := Lib.hid hq
                clear hq
                go_wp2
                refine bodyPost_ret (v := .tuple #[.agg #[.int .i64 0, .string ⟨#[]⟩, .string ⟨#[]⟩, .int .i64 0], .bool true]) (by simp [results, Tryz.results40, asAddr, Result.andThen, go_sem, f0, f1, f2, f3]) rfl ?_
                exact ⟨⟨0, ⟨#[]⟩, ⟨#[]⟩, 0⟩, true, rfl, (fun _ => yr_true HSS.out HRD.out HLK.out (HLV.out.trans HEQ.out)), (fun h => by cases h), HOK.out, HF.out.below⟩
              · have zE : (LV.toList == S.toList) = false := ne_str hq
                have HEQ := Lib.hid hq
                clear hq
                go_wp2
                refine bodyPost_ret (v := .tuple #[.agg #[.int .i64 0, .string ⟨#[]⟩, .string ⟨#[]⟩, .int .i64 0], .bool false]) (by simp [results, Tryz.results40, asAddr, Result.andThen, go_sem, f0, f1, f2, f3]) rfl ?_
                exact ⟨⟨0, ⟨#[]⟩, ⟨#[]⟩, 0⟩, false, rfl, (fun h => by cases h), fun _ => yr_false HSS.out HRD.out (.inr (fun e => HEQ.out (HLV.out.symm.trans e))), HOK.out, HF.out.below⟩
        · have E2 : ((bs a).toList == [114, 101, 109, 111, 118, 101]) = false := ne_lit a2
          by_cases a3 : a = pR
          · subst a3
            have E3 : ((bs pR).toList == [114, 101, 97, 100]) = true := eq_lit pR
            have E4 : ((bs pR).toList == [115, 121, 110, 99]) = false := ne_lit (by decide)
            have E5 : ((bs pR).toList == [99, 114, 97, 115, 104]) = false := ne_lit (by decide)
            clear a1 a2
            by_cases hn : ∃ b, r = [b]
            · obtain ⟨b, rfl⟩ := hn
              have h2 : ((n : Int) == 2) = true := by rw [← HWL.out, HWS.out]; rfl
              have i1 : (1 : Int) < (n : Int) := by rw [← HWL.out, HWS.out]; simp
              have HRD : Hid (Rdl x ⟨3, bs b, e0, 0⟩) := Lib.hid (rdl_read (by rw [HW0.out, HWS.out]))
              have HOK : Hid (OkO ⟨3, bs b, e0, 0⟩) := Lib.hid (ok_small (nm := b) (dt := []) (HLEN.out b (by rw [HWS.out]; simp)) (by simp) (by omega) (by omega))
              rw [HWS.out] at HS
              have c1 := row_cell HS.out 1 rfl HNP.out (k := 1) rfl
              unfold wcell at c1
              have HS9 := Lib.hid (setFour HS.out 3 rfl (.int .i64 3) (.string (bs b)) (.string ⟨#[]⟩) (.int .i64 0))
              have c0 := row_cell HS.out 1 rfl HNP.out (k := 0) rfl
              unfold wcell at c0
              have p0 := HS.out.cell 3 rfl (k := 0) rfl
              have p1 := HS.out.cell 3 rfl (k := 1) rfl
              have p2 := HS.out.cell 3 rfl (k := 2) rfl
              have p3 := HS.out.cell 3 rfl (k := 3) rfl
              have u0 := HS.out.froz 3 rfl (k := 0)
              have u1 := HS.out.froz 3 rfl (k := 1)
              have u2 := HS.out.froz 3 rfl (k := 2)
              have u3 := HS.out.froz 3 rfl (k := 3)
              go_upto_region 26 with (fail)
              clear p0 p1 p2 p3 u0 u1 u2 u3 c0 HS
              generalize World.setCell _ ⟨go_, 3, none⟩ (.int .i64 0) = w9 at HS9 ⊢
              have p0 := HS9.out.cell 3 rfl (k := 0) rfl
              have p1 := HS9.out.cell 3 rfl (k := 1) rfl
              have p2 := HS9.out.cell 3 rfl (k := 2) rfl
              have p3 := HS9.out.cell 3 rfl (k := 3) rfl
              obtain ⟨LV, hLV⟩ : ∃ LV, bs (lt ⟨3, (bs b), ⟨#[]⟩, 0⟩) = LV := ⟨_, rfl⟩
              obtain ⟨lv, hlv⟩ : ∃ lv, lk ⟨3, (bs b), ⟨#[]⟩, 0⟩ = lv := ⟨_, rfl⟩
              have cY := yline_op ⟨3, (bs b), ⟨#[]⟩, 0⟩ HOK.out _ (HG.out.later HS9.out.below)
              unfold LineR at cY
              rw [hLV, hlv] at cY
              have CY := Lib.hid cY
              have HLV := Lib.hid hLV
              have HLK := Lib.hid hlv
              clear cY hLV hlv
              go_wp2_with fail
              refine CY.out.mono ?_; rintro en wb ⟨rfl, hb⟩
              have HSa := Lib.hid (HS9.out.later hb)
              clear p0 p1 p2 p3 CY hb HS9
              have p0 := HSa.out.cell 3 rfl (k := 0) rfl
              have p1 := HSa.out.cell 3 rfl (k := 1) rfl
              have p2 := HSa.out.cell 3 rfl (k := 2) rfl
              have p3 := HSa.out.cell 3 rfl (k := 3) rfl
              have r0 := HSa.out.cell 0 rfl (k := 0) rfl
              have r1 := HSa.out.cell 0 rfl (k := 1) rfl
              have r2 := HSa.out.cell 0 rfl (k := 2) rfl
              have r3 := HSa.out.cell 0 rfl (k := 3) rfl
              have u0 := HSa.out.froz 0 rfl (k := 0)
              have u1 := HSa.out.froz 0 rfl (k := 1)
              have u2 := HSa.out.froz 0 rfl (k := 2)
              have u3 := HSa.out.froz 0 rfl (k := 3)
              have HF := Lib.hid (setFour HSa.out 0 rfl (.int .i64 3) (.string (bs b)) (.string ⟨#[]⟩) (.int .i64 0))
              have f0 := HF.out.cell 0 rfl (k := 0) rfl
              have f1 := HF.out.cell 0 rfl (k := 1) rfl
              have f2 := HF.out.cell 0 rfl (k := 2) rfl
              have f3 := HF.out.cell 0 rfl (k := 3) rfl
              cases lv with
              | false =>
                go_wp2
                refine bodyPost_ret (v := .tuple #[.agg #[.int .i64 3, .string (bs b), .string ⟨#[]⟩, .int .i64 0], .bool false]) (by simp [results, Tryz.results40, asAddr, Result.andThen, go_sem, f0, f1, f2, f3]) rfl ?_
                exact ⟨⟨3, (bs b), ⟨#[]⟩, 0⟩, false, rfl, (fun h => by cases h), fun _ => yr_false HSS.out HRD.out (.inl HLK.out), HOK.out, HF.out.below⟩
              | true =>
                by_cases hq : LV = S
                · have zE : (LV.toList == S.toList) = true := by rw [hq]; simp
                  have HEQ := Lib.hid hq
                  clear hq
                  go_wp2
                  refine bodyPost_ret (v := .tuple #[.agg #[.int .i64 3, .string (bs b), .string ⟨#[]⟩, .int .i64 0], .bool true]) (by simp [results, Tryz.results40, asAddr, Result.andThen, go_sem, f0, f1, f2, f3]) rfl ?_
                  exact ⟨⟨3, (bs b), ⟨#[]⟩, 0⟩, true, rfl, (fun _ => yr_true HSS.out HRD.out HLK.out (HLV.out.trans HEQ.out)), (fun h => by cases h), HOK.out, HF.out.below⟩
                · have zE : (LV.toList == S.toList) = false := ne_str hq
                  have HEQ := Lib.hid hq
                  clear hq
                  go_wp2
                  refine bodyPost_ret (v := .tuple #[.agg #[.int .i64 3, .string (bs b), .string ⟨#[]⟩, .int .i64 0], .bool false]) (by simp [results, Tryz.results40, asAddr, Result.andThen, go_sem, f0, f1, f2, f3]) rfl ?_
                  exact ⟨⟨3, (bs b), ⟨#[]⟩, 0⟩, false, rfl, (fun h => by cases h), fun _ => yr_false HSS.out HRD.out (.inr (fun e => HEQ.out (HLV.out.symm.trans e))), HOK.out, HF.out.below⟩
            · have HRD : Hid (Rdl x ⟨0, e0, e0, 0⟩) := Lib.hid (rdl_zero (fun b c h => by rw [HW0.out, HWS.out] at h; simp only [List.cons.injEq] at h; exact absurd h.1 (by decide)) (fun b h => by rw [HW0.out, HWS.out] at h; simp only [List.cons.injEq] at h; exact absurd h.1 (by decide)) (fun b h => hn ⟨b, by rw [HW0.out, HWS.out] at h; simpa using h⟩) (fun b h => by rw [HW0.out, HWS.out] at h; simp only [List.cons.injEq] at h; exact absurd h.1 (by decide)) (fun b h => by rw [HW0.out, HWS.out] at h; simp only [List.cons.injEq] at h; exact absurd h.1 (by decide)))
              have HOK : Hid (OkO ⟨0, e0, e0, 0⟩) := Lib.hid (ok_small (nm := []) (dt := []) (by simp) (by simp) (by omega) (by omega))
              have h2 : ((n : Int) == 2) = false := nlen (fun e => by
                have hn2 := HWL.out
                rw [HWS.out, e] at hn2
                match r, hn2 with
                | [b], _ => exact hn ⟨b, rfl⟩)
              rw [HWS.out] at HS
              clear hn
              have c0 := row_cell HS.out 1 rfl HNP.out (k := 0) rfl
              unfold wcell at c0
              go_upto_region 26 with (fail)
              have HS9 := HS
              clear c0 HS
              have p0 := HS9.out.cell 3 rfl (k := 0) rfl
              have p1 := HS9.out.cell 3 rfl (k := 1) rfl
              have p2 := HS9.out.cell 3 rfl (k := 2) rfl
              have p3 := HS9.out.cell 3 rfl (k := 3) rfl
              obtain ⟨LV, hLV⟩ : ∃ LV, bs (lt ⟨0, ⟨#[]⟩, ⟨#[]⟩, 0⟩) = LV := ⟨_, rfl⟩
              obtain ⟨lv, hlv⟩ : ∃ lv, lk ⟨0, ⟨#[]⟩, ⟨#[]⟩, 0⟩ = lv := ⟨_, rfl⟩
              have cY := yline_op ⟨0, ⟨#[]⟩, ⟨#[]⟩, 0⟩ HOK.out _ (HG.out.later HS9.out.below)
              unfold LineR at cY
              rw [hLV, hlv] at cY
              have CY := Lib.hid cY
              have HLV := Lib.hid hLV
              have HLK := Lib.hid hlv
              clear cY hLV hlv
              go_wp2_with fail
              refine CY.out.mono ?_; rintro en wb ⟨rfl, hb⟩
              have HSa := Lib.hid (HS9.out.later hb)
              clear p0 p1 p2 p3 CY hb HS9
              have p0 := HSa.out.cell 3 rfl (k := 0) rfl
              have p1 := HSa.out.cell 3 rfl (k := 1) rfl
              have p2 := HSa.out.cell 3 rfl (k := 2) rfl
              have p3 := HSa.out.cell 3 rfl (k := 3) rfl
              have r0 := HSa.out.cell 0 rfl (k := 0) rfl
              have r1 := HSa.out.cell 0 rfl (k := 1) rfl
              have r2 := HSa.out.cell 0 rfl (k := 2) rfl
              have r3 := HSa.out.cell 0 rfl (k := 3) rfl
              have u0 := HSa.out.froz 0 rfl (k := 0)
              have u1 := HSa.out.froz 0 rfl (k := 1)
              have u2 := HSa.out.froz 0 rfl (k := 2)
              have u3 := HSa.out.froz 0 rfl (k := 3)
              have HF := Lib.hid (setFour HSa.out 0 rfl (.int .i64 0) (.string ⟨#[]⟩) (.string ⟨#[]⟩) (.int .i64 0))
              have f0 := HF.out.cell 0 rfl (k := 0) rfl
              have f1 := HF.out.cell 0 rfl (k := 1) rfl
              have f2 := HF.out.cell 0 rfl (k := 2) rfl
              have f3 := HF.out.cell 0 rfl (k := 3) rfl
              cases lv with
              | false =>
                go_wp2
                refine bodyPost_ret (v := .tuple #[.agg #[.int .i64 0, .string ⟨#[]⟩, .string ⟨#[]⟩, .int .i64 0], .bool false]) (by simp [results, Tryz.results40, asAddr, Result.andThen, go_sem, f0, f1, f2, f3]) rfl ?_
                exact ⟨⟨0, ⟨#[]⟩, ⟨#[]⟩, 0⟩, false, rfl, (fun h => by cases h), fun _ => yr_false HSS.out HRD.out (.inl HLK.out), HOK.out, HF.out.below⟩
              | true =>
                by_cases hq : LV = S
                · have zE : (LV.toList == S.toList) = true := by rw [hq]; simp
                  have HEQ := Lib.hid hq
                  clear hq
                  go_wp2
                  refine bodyPost_ret (v := .tuple #[.agg #[.int .i64 0, .string ⟨#[]⟩, .string ⟨#[]⟩, .int .i64 0], .bool true]) (by simp [results, Tryz.results40, asAddr, Result.andThen, go_sem, f0, f1, f2, f3]) rfl ?_
                  exact ⟨⟨0, ⟨#[]⟩, ⟨#[]⟩, 0⟩, true, rfl, (fun _ => yr_true HSS.out HRD.out HLK.out (HLV.out.trans HEQ.out)), (fun h => by cases h), HOK.out, HF.out.below⟩
                · have zE : (LV.toList == S.toList) = false := ne_str hq
                  have HEQ := Lib.hid hq
                  clear hq
                  go_wp2
                  refine bodyPost_ret (v := .tuple #[.agg #[.int .i64 0, .string ⟨#[]⟩, .string ⟨#[]⟩, .int .i64 0], .bool false]) (by simp [results, Tryz.results40, asAddr, Result.andThen, go_sem, f0, f1, f2, f3]) rfl ?_
                  exact ⟨⟨0, ⟨#[]⟩, ⟨#[]⟩, 0⟩, false, rfl, (fun h => by cases h), fun _ => yr_false HSS.out HRD.out (.inr (fun e => HEQ.out (HLV.out.symm.trans e))), HOK.out, HF.out.below⟩
          · have E3 : ((bs a).toList == [114, 101, 97, 100]) = false := ne_lit a3
            by_cases a4 : a = pS
            · subst a4
              have E4 : ((bs pS).toList == [115, 121, 110, 99]) = true := eq_lit pS
              clear a1 a2 a3
              have HRD : Hid (Rdl x ⟨4, e0, e0, 0⟩) := Lib.hid (rdl_sync (by rw [HW0.out, HWS.out]))
              have HOK : Hid (OkO ⟨4, e0, e0, 0⟩) := Lib.hid (ok_small (nm := []) (dt := []) (by simp) (by simp) (by omega) (by omega))
              rw [HWS.out] at HS
              have HS9 := Lib.hid (HS.out.set 3 rfl (k := 0) (.int .i64 4))
              have c0 := row_cell HS.out 1 rfl HNP.out (k := 0) rfl
              unfold wcell at c0
              have p0 := HS.out.cell 3 rfl (k := 0) rfl
              have u0 := HS.out.froz 3 rfl (k := 0)
              go_upto_region 26 with (fail)
              clear p0 u0 c0 HS
              generalize World.setCell _ ⟨go_, 0, none⟩ (.int .i64 4) = w9 at HS9 ⊢
              have p0 := HS9.out.cell 3 rfl (k := 0) rfl
              have p1 := HS9.out.cell 3 rfl (k := 1) rfl
              have p2 := HS9.out.cell 3 rfl (k := 2) rfl
              have p3 := HS9.out.cell 3 rfl (k := 3) rfl
              obtain ⟨LV, hLV⟩ : ∃ LV, bs (lt ⟨4, ⟨#[]⟩, ⟨#[]⟩, 0⟩) = LV := ⟨_, rfl⟩
              obtain ⟨lv, hlv⟩ : ∃ lv, lk ⟨4, ⟨#[]⟩, ⟨#[]⟩, 0⟩ = lv := ⟨_, rfl⟩
              have cY := yline_op ⟨4, ⟨#[]⟩, ⟨#[]⟩, 0⟩ HOK.out _ (HG.out.later HS9.out.below)
              unfold LineR at cY
              rw [hLV, hlv] at cY
              have CY := Lib.hid cY
              have HLV := Lib.hid hLV
              have HLK := Lib.hid hlv
              clear cY hLV hlv
              go_wp2_with fail
              refine CY.out.mono ?_; rintro en wb ⟨rfl, hb⟩
              have HSa := Lib.hid (HS9.out.later hb)
              clear p0 p1 p2 p3 CY hb HS9
              have p0 := HSa.out.cell 3 rfl (k := 0) rfl
              have p1 := HSa.out.cell 3 rfl (k := 1) rfl
              have p2 := HSa.out.cell 3 rfl (k := 2) rfl
              have p3 := HSa.out.cell 3 rfl (k := 3) rfl
              have r0 := HSa.out.cell 0 rfl (k := 0) rfl
              have r1 := HSa.out.cell 0 rfl (k := 1) rfl
              have r2 := HSa.out.cell 0 rfl (k := 2) rfl
              have r3 := HSa.out.cell 0 rfl (k := 3) rfl
              have u0 := HSa.out.froz 0 rfl (k := 0)
              have u1 := HSa.out.froz 0 rfl (k := 1)
              have u2 := HSa.out.froz 0 rfl (k := 2)
              have u3 := HSa.out.froz 0 rfl (k := 3)
              have HF := Lib.hid (setFour HSa.out 0 rfl (.int .i64 4) (.string ⟨#[]⟩) (.string ⟨#[]⟩) (.int .i64 0))
              have f0 := HF.out.cell 0 rfl (k := 0) rfl
              have f1 := HF.out.cell 0 rfl (k := 1) rfl
              have f2 := HF.out.cell 0 rfl (k := 2) rfl
              have f3 := HF.out.cell 0 rfl (k := 3) rfl
              cases lv with
              | false =>
                go_wp2
                refine bodyPost_ret (v := .tuple #[.agg #[.int .i64 4, .string ⟨#[]⟩, .string ⟨#[]⟩, .int .i64 0], .bool false]) (by simp [results, Tryz.results40, asAddr, Result.andThen, go_sem, f0, f1, f2, f3]) rfl ?_
                exact ⟨⟨4, ⟨#[]⟩, ⟨#[]⟩, 0⟩, false, rfl, (fun h => by cases h), fun _ => yr_false HSS.out HRD.out (.inl HLK.out), HOK.out, HF.out.below⟩
              | true =>
                by_cases hq : LV = S
                · have zE : (LV.toList == S.toList) = true := by rw [hq]; simp
                  have HEQ := Lib.hid hq
                  clear hq
                  go_wp2
                  refine bodyPost_ret (v := .tuple #[.agg #[.int .i64 4, .string ⟨#[]⟩, .string ⟨#[]⟩, .int .i64 0], .bool true]) (by simp [results, Tryz.results40, asAddr, Result.andThen, go_sem, f0, f1, f2, f3]) rfl ?_
                  exact ⟨⟨4, ⟨#[]⟩, ⟨#[]⟩, 0⟩, true, rfl, (fun _ => yr_true HSS.out HRD.out HLK.out (HLV.out.trans HEQ.out)), (fun h => by cases h), HOK.out, HF.out.below⟩
                · have zE : (LV.toList == S.toList) = false := ne_str hq
                  have HEQ := Lib.hid hq
                  clear hq
                  go_wp2
                  refine bodyPost_ret (v := .tuple #[.agg #[.int .i64 4, .string ⟨#[]⟩, .string ⟨#[]⟩, .int .i64 0], .bool false]) (by simp [results, Tryz.results40, asAddr, Result.andThen, go_sem, f0, f1, f2, f3]) rfl ?_
                  exact ⟨⟨4, ⟨#[]⟩, ⟨#[]⟩, 0⟩, false, rfl, (fun h => by cases h), fun _ => yr_false HSS.out HRD.out (.inr (fun e => HEQ.out (HLV.out.symm.trans e))), HOK.out, HF.out.below⟩
            · have E4 : ((bs a).toList == [115, 121, 110, 99]) = false := ne_lit a4
              by_cases a5 : a = pC
              · subst a5
                have E5 : ((bs pC).toList == [99, 114, 97, 115, 104]) = true := eq_lit pC
                clear a1 a2 a3 a4
                by_cases hn : ∃ b, r = [b]
                · obtain ⟨b, rfl⟩ := hn
                  have h2 : ((n : Int) == 2) = true := by rw [← HWL.out, HWS.out]; rfl
                  have i1 : (1 : Int) < (n : Int) := by rw [← HWL.out, HWS.out]; simp
                  have cA := Lib.hid (parseInt_any b (HLEN.out b (by rw [HWS.out]; simp)) _ HG8.out)
                  have HQ := Lib.hid (show spl 32 x = [pC, b] by rw [HW0.out, HWS.out])
                  rw [HWS.out] at HS
                  have c0 := row_cell HS.out 1 rfl HNP.out (k := 0) rfl
                  have c1 := row_cell HS.out 1 rfl HNP.out (k := 1) rfl
                  unfold wcell at c0 c1
                  go_upto_region 24 with (fail)
                  go_wp2_with fail
                  refine cA.out.mono ?_; rintro en wb ⟨k, ev, rfl, hb, hk1, hk2, hk⟩
                  have HS1 := Lib.hid (HS.out.later hb)
                  have HRD : Hid (Rdl x ⟨5, e0, e0, k⟩) := Lib.hid (rdl_crash HQ.out k (fun v h1 h2 e => hk v (by rw [e]; exact int_itoa v h1 h2)))
                  have HOK : Hid (OkO ⟨5, e0, e0, k⟩) := Lib.hid (ok_small (nm := []) (dt := []) (by simp) (by simp) hk1 hk2)
                  clear c0 c1 cA hb hk hk1 hk2 HS
                  have HS := HS1
                  clear HS1
                  have HS9 := Lib.hid (setFour HS.out 3 rfl (.int .i64 5) (.string ⟨#[]⟩) (.string ⟨#[]⟩) (.int .i64 k))
                  have c0 := row_cell HS.out 1 rfl HNP.out (k := 0) rfl
                  unfold wcell at c0
                  have p0 := HS.out.cell 3 rfl (k := 0) rfl
                  have p1 := HS.out.cell 3 rfl (k := 1) rfl
                  have p2 := HS.out.cell 3 rfl (k := 2) rfl
                  have p3 := HS.out.cell 3 rfl (k := 3) rfl
                  have u0 := HS.out.froz 3 rfl (k := 0)
                  have u1 := HS.out.froz 3 rfl (k := 1)
                  have u2 := HS.out.froz 3 rfl (k := 2)
                  have u3 := HS.out.froz 3 rfl (k := 3)
                  go_upto_region 26 with (fail)
                  clear p0 p1 p2 p3 u0 u1 u2 u3 c0 HS
                  generalize World.setCell _ ⟨go_, 3, none⟩ (.int .i64 k) = w9 at HS9 ⊢
                  have p0 := HS9.out.cell 3 rfl (k := 0) rfl
                  have p1 := HS9.out.cell 3 rfl (k := 1) rfl
                  have p2 := HS9.out.cell 3 rfl (k := 2) rfl
                  have p3 := HS9.out.cell 3 rfl (k := 3) rfl
                  obtain ⟨LV, hLV⟩ : ∃ LV, bs (lt ⟨5, ⟨#[]⟩, ⟨#[]⟩, k⟩) = LV := ⟨_, rfl⟩
                  obtain ⟨lv, hlv⟩ : ∃ lv, lk ⟨5, ⟨#[]⟩, ⟨#[]⟩, k⟩ = lv := ⟨_, rfl⟩
                  have cY := yline_op ⟨5, ⟨#[]⟩, ⟨#[]⟩, k⟩ HOK.out _ (HG.out.later HS9.out.below)
                  unfold LineR at cY
                  rw [hLV, hlv] at cY
                  have CY := Lib.hid cY
                  have HLV := Lib.hid hLV
                  have HLK := Lib.hid hlv
                  clear cY hLV hlv
                  go_wp2_with fail
                  refine CY.out.mono ?_; rintro en wb ⟨rfl, hb⟩
                  have HSa := Lib.hid (HS9.out.later hb)
                  clear p0 p1 p2 p3 CY hb HS9
                  have p0 := HSa.out.cell 3 rfl (k := 0) rfl
                  have p1 := HSa.out.cell 3 rfl (k := 1) rfl
                  have p2 := HSa.out.cell 3 rfl (k := 2) rfl
                  have p3 := HSa.out.cell 3 rfl (k := 3) rfl
                  have r0 := HSa.out.cell 0 rfl (k := 0) rfl
                  have r1 := HSa.out.cell 0 rfl (k := 1) rfl
                  have r2 := HSa.out.cell 0 rfl (k := 2) rfl
                  have r3 := HSa.out.cell 0 rfl (k := 3) rfl
                  have u0 := HSa.out.froz 0 rfl (k := 0)
                  have u1 := HSa.out.froz 0 rfl (k := 1)
                  have u2 := HSa.out.froz 0 rfl (k := 2)
                  have u3 := HSa.out.froz 0 rfl (k := 3)
                  have HF := Lib.hid (setFour HSa.out 0 rfl (.int .i64 5) (.string ⟨#[]⟩) (.string ⟨#[]⟩) (.int .i64 k))
                  have f0 := HF.out.cell 0 rfl (k := 0) rfl
                  have f1 := HF.out.cell 0 rfl (k := 1) rfl
                  have f2 := HF.out.cell 0 rfl (k := 2) rfl
                  have f3 := HF.out.cell 0 rfl (k := 3) rfl
                  cases lv with
                  | false =>
                    go_wp2
                    refine bodyPost_ret (v := .tuple #[.agg #[.int .i64 5, .string ⟨#[]⟩, .string ⟨#[]⟩, .int .i64 k], .bool false]) (by simp [results, Tryz.results40, asAddr, Result.andThen, go_sem, f0, f1, f2, f3]) rfl ?_
                    exact ⟨⟨5, ⟨#[]⟩, ⟨#[]⟩, k⟩, false, rfl, (fun h => by cases h), fun _ => yr_false HSS.out HRD.out (.inl HLK.out), HOK.out, HF.out.below⟩
                  | true =>
                    by_cases hq : LV = S
                    · have zE : (LV.toList == S.toList) = true := by rw [hq]; simp
                      have HEQ := Lib.hid hq
                      clear hq
                      go_wp2
                      refine bodyPost_ret (v := .tuple #[.agg #[.int .i64 5, .string ⟨#[]⟩, .string ⟨#[]⟩, .int .i64 k], .bool true]) (by simp [results, Tryz.results40, asAddr, Result.andThen, go_sem, f0, f1, f2, f3]) rfl ?_
                      exact ⟨⟨5, ⟨#[]⟩, ⟨#[]⟩, k⟩, true, rfl, (fun _ => yr_true HSS.out HRD.out HLK.out (HLV.out.trans HEQ.out)), (fun h => by cases h), HOK.out, HF.out.below⟩
                    · have zE : (LV.toList == S.toList) = false := ne_str hq
                      have HEQ := Lib.hid hq
                      clear hq
                      go_wp2
                      refine bodyPost_ret (v := .tuple #[.agg #[.int .i64 5, .string ⟨#[]⟩, .string ⟨#[]⟩, .int .i64 k], .bool false]) (by simp [results, Tryz.results40, asAddr, Result.andThen, go_sem, f0, f1, f2, f3]) rfl ?_
                      exact ⟨⟨5, ⟨#[]⟩, ⟨#[]⟩, k⟩, false, rfl, (fun h => by cases h), fun _ => yr_false HSS.out HRD.out (.inr (fun e => HEQ.out (HLV.out.symm.trans e))), HOK.out, HF.out.below⟩
                · have HRD : Hid (Rdl x ⟨0, e0, e0, 0⟩) := Lib.hid (rdl_zero (fun b c h => by rw [HW0.out, HWS.out] at h; simp only [List.cons.injEq] at h; exact absurd h.1 (by decide)) (fun b h => by rw [HW0.out, HWS.out] at h; simp only [List.cons.injEq] at h; exact absurd h.1 (by decide)) (fun b h => by rw [HW0.out, HWS.out] at h; simp only [List.cons.injEq] at h; exact absurd h.1 (by decide)) (fun b h => by rw [HW0.out, HWS.out] at h; simp only [List.cons.injEq] at h; exact absurd h.1 (by decide)) (fun b h => hn ⟨b, by rw [HW0.out, HWS.out] at h; simpa using h⟩))
                  have HOK : Hid (OkO ⟨0, e0, e0, 0⟩) := Lib.hid (ok_small (nm := []) (dt := []) (by simp) (by simp) (by omega) (by omega))
                  have h2 : ((n : Int) == 2) = false := nlen (fun e => by
                    have hn2 := HWL.out
                    rw [HWS.out, e] at hn2
                    match r, hn2 with
                    | [b], _ => exact hn ⟨b, rfl⟩)
                  rw [HWS.out] at HS
                  clear hn
                  have c0 := row_cell HS.out 1 rfl HNP.out (k := 0) rfl
                  unfold wcell at c0
                  go_upto_region 26 with (fail)
                  have HS9 := HS
                  clear c0 HS
                  have p0 := HS9.out.cell 3 rfl (k := 0) rfl
                  have p1 := HS9.out.cell 3 rfl (k := 1) rfl
                  have p2 := HS9.out.cell 3 rfl (k := 2) rfl
                  have p3 := HS9.out.cell 3 rfl (k := 3) rfl
                  obtain ⟨LV, hLV⟩ : ∃ LV, bs (lt ⟨0, ⟨#[]⟩, ⟨#[]⟩, 0⟩) = LV := ⟨_, rfl⟩
                  obtain ⟨lv, hlv⟩ : ∃ lv, lk ⟨0, ⟨#[]⟩, ⟨#[]⟩, 0⟩ = lv := ⟨_, rfl⟩
                  have cY := yline_op ⟨0, ⟨#[]⟩, ⟨#[]⟩, 0⟩ HOK.out _ (HG.out.later HS9.out.below)
                  unfold LineR at cY
                  rw [hLV, hlv] at cY
                  have CY := Lib.hid cY
                  have HLV := Lib.hid hLV
                  have HLK := Lib.hid hlv
                  clear cY hLV hlv
                  go_wp2_with fail
                  refine CY.out.mono ?_; rintro en wb ⟨rfl, hb⟩
                  have HSa := Lib.hid (HS9.out.later hb)
                  clear p0 p1 p2 p3 CY hb HS9
                  have p0 := HSa.out.cell 3 rfl (k := 0) rfl
                  have p1 := HSa.out.cell 3 rfl (k := 1) rfl
                  have p2 := HSa.out.cell 3 rfl (k := 2) rfl
                  have p3 := HSa.out.cell 3 rfl (k := 3) rfl
                  have r0 := HSa.out.cell 0 rfl (k := 0) rfl
                  have r1 := HSa.out.cell 0 rfl (k := 1) rfl
                  have r2 := HSa.out.cell 0 rfl (k := 2) rfl
                  have r3 := HSa.out.cell 0 rfl (k := 3) rfl
                  have u0 := HSa.out.froz 0 rfl (k := 0)
                  have u1 := HSa.out.froz 0 rfl (k := 1)
                  have u2 := HSa.out.froz 0 rfl (k := 2)
                  have u3 := HSa.out.froz 0 rfl (k := 3)
                  have HF := Lib.hid (setFour HSa.out 0 rfl (.int .i64 0) (.string ⟨#[]⟩) (.string ⟨#[]⟩) (.int .i64 0))
                  have f0 := HF.out.cell 0 rfl (k := 0) rfl
                  have f1 := HF.out.cell 0 rfl (k := 1) rfl
                  have f2 := HF.out.cell 0 rfl (k := 2) rfl
                  have f3 := HF.out.cell 0 rfl (k := 3) rfl
                  cases lv with
                  | false =>
                    go_wp2
                    refine bodyPost_ret (v := .tuple #[.agg #[.int .i64 0, .string ⟨#[]⟩, .string ⟨#[]⟩, .int .i64 0], .bool false]) (by simp [results, Tryz.results40, asAddr, Result.andThen, go_sem, f0, f1, f2, f3]) rfl ?_
                    exact ⟨⟨0, ⟨#[]⟩, ⟨#[]⟩, 0⟩, false, rfl, (fun h => by cases h), fun _ => yr_false HSS.out HRD.out (.inl HLK.out), HOK.out, HF.out.below⟩
                  | true =>
                    by_cases hq : LV = S
                    · have zE : (LV.toList == S.toList) = true := by rw [hq]; simp
                      have HEQ := Lib.hid hq
                      clear hq
                      go_wp2
                      refine bodyPost_ret (v := .tuple #[.agg #[.int .i64 0, .string ⟨#[]⟩, .string ⟨#[]⟩, .int .i64 0], .bool true]) (by simp [results, Tryz.results40, asAddr, Result.andThen, go_sem, f0, f1, f2, f3]) rfl ?_
                      exact ⟨⟨0, ⟨#[]⟩, ⟨#[]⟩, 0⟩, true, rfl, (fun _ => yr_true HSS.out HRD.out HLK.out (HLV.out.trans HEQ.out)), (fun h => by cases h), HOK.out, HF.out.below⟩
                    · have zE : (LV.toList == S.toList) = false := ne_str hq
                      have HEQ := Lib.hid hq
                      clear hq
                      go_wp2
                      refine bodyPost_ret (v := .tuple #[.agg #[.int .i64 0, .string ⟨#[]⟩, .string ⟨#[]⟩, .int .i64 0], .bool false]) (by simp [results, Tryz.results40, asAddr, Result.andThen, go_sem, f0, f1, f2, f3]) rfl ?_
                      exact ⟨⟨0, ⟨#[]⟩, ⟨#[]⟩, 0⟩, false, rfl, (fun h => by cases h), fun _ => yr_false HSS.out HRD.out (.inr (fun e => HEQ.out (HLV.out.symm.trans e))), HOK.out, HF.out.below⟩
              · have E5 : ((bs a).toList == [99, 114, 97, 115, 104]) = false := ne_lit a5
                have HRD : Hid (Rdl x ⟨0, e0, e0, 0⟩) := Lib.hid (rdl_zero (fun b c h => a1 (by rw [HW0.out, HWS.out] at h; simp only [List.cons.injEq] at h; exact h.1)) (fun b h => a2 (by rw [HW0.out, HWS.out] at h; simp only [List.cons.injEq] at h; exact h.1)) (fun b h => a3 (by rw [HW0.out, HWS.out] at h; simp only [List.cons.injEq] at h; exact h.1)) (fun b h => a4 (by rw [HW0.out, HWS.out] at h; simp only [List.cons.injEq] at h; exact h.1)) (fun b h => a5 (by rw [HW0.out, HWS.out] at h; simp only [List.cons.injEq] at h; exact h.1)))
                have HOK : Hid (OkO ⟨0, e0, e0, 0⟩) := Lib.hid (ok_small (nm := []) (dt := []) (by simp) (by simp) (by omega) (by omega))
                clear a1 a2 a3 a4 a5
                rw [HWS.out] at HS
                have c0 := row_cell HS.out 1 rfl HNP.out (k := 0) rfl
                unfold wcell at c0
                go_upto_region 26 with (fail)
                have HS9 := HS
                clear c0 HS
                have p0 := HS9.out.cell 3 rfl (k := 0) rfl
                have p1 := HS9.out.cell 3 rfl (k := 1) rfl
                have p2 := HS9.out.cell 3 rfl (k := 2) rfl
                have p3 := HS9.out.cell 3 rfl (k := 3) rfl
                obtain ⟨LV, hLV⟩ : ∃ LV, bs (lt ⟨0, ⟨#[]⟩, ⟨#[]⟩, 0⟩) = LV := ⟨_, rfl⟩
                obtain ⟨lv, hlv⟩ : ∃ lv, lk ⟨0, ⟨#[]⟩, ⟨#[]⟩, 0⟩ = lv := ⟨_, rfl⟩
                have cY := yline_op ⟨0, ⟨#[]⟩, ⟨#[]⟩, 0⟩ HOK.out _ (HG.out.later HS9.out.below)
                unfold LineR at cY
                rw [hLV, hlv] at cY
                have CY := Lib.hid cY
                have HLV := Lib.hid hLV
                have HLK := Lib.hid hlv
                clear cY hLV hlv
                go_wp2_with fail
                refine CY.out.mono ?_; rintro en wb ⟨rfl, hb⟩
                have HSa := Lib.hid (HS9.out.later hb)
                clear p0 p1 p2 p3 CY hb HS9
                have p0 := HSa.out.cell 3 rfl (k := 0) rfl
                have p1 := HSa.out.cell 3 rfl (k := 1) rfl
                have p2 := HSa.out.cell 3 rfl (k := 2) rfl
                have p3 := HSa.out.cell 3 rfl (k := 3) rfl
                have r0 := HSa.out.cell 0 rfl (k := 0) rfl
                have r1 := HSa.out.cell 0 rfl (k := 1) rfl
                have r2 := HSa.out.cell 0 rfl (k := 2) rfl
                have r3 := HSa.out.cell 0 rfl (k := 3) rfl
                have u0 := HSa.out.froz 0 rfl (k := 0)
                have u1 := HSa.out.froz 0 rfl (k := 1)
                have u2 := HSa.out.froz 0 rfl (k := 2)
                have u3 := HSa.out.froz 0 rfl (k := 3)
                have HF := Lib.hid (setFour HSa.out 0 rfl (.int .i64 0) (.string ⟨#[]⟩) (.string ⟨#[]⟩) (.int .i64 0))
                have f0 := HF.out.cell 0 rfl (k := 0) rfl
                have f1 := HF.out.cell 0 rfl (k := 1) rfl
                have f2 := HF.out.cell 0 rfl (k := 2) rfl
                have f3 := HF.out.cell 0 rfl (k := 3) rfl
                cases lv with
                | false =>
                  go_wp2
                  refine bodyPost_ret (v := .tuple #[.agg #[.int .i64 0, .string ⟨#[]⟩, .string ⟨#[]⟩, .int .i64 0], .bool false]) (by simp [results, Tryz.results40, asAddr, Result.andThen, go_sem, f0, f1, f2, f3]) rfl ?_
                  exact ⟨⟨0, ⟨#[]⟩, ⟨#[]⟩, 0⟩, false, rfl, (fun h => by cases h), fun _ => yr_false HSS.out HRD.out (.inl HLK.out), HOK.out, HF.out.below⟩
                | true =>
                  by_cases hq : LV = S
                  · have zE : (LV.toList == S.toList) = true := by rw [hq]; simp
                    have HEQ := Lib.hid hq
                    clear hq
                    go_wp2
                    refine bodyPost_ret (v := .tuple #[.agg #[.int .i64 0, .string ⟨#[]⟩, .string ⟨#[]⟩, .int .i64 0], .bool true]) (by simp [results, Tryz.results40, asAddr, Result.andThen, go_sem, f0, f1, f2, f3]) rfl ?_
                    exact ⟨⟨0, ⟨#[]⟩, ⟨#[]⟩, 0⟩, true, rfl, (fun _ => yr_true HSS.out HRD.out HLK.out (HLV.out.trans HEQ.out)), (fun h => by cases h), HOK.out, HF.out.below⟩
                  · have zE : (LV.toList == S.toList) = false := ne_str hq
                    have HEQ := Lib.hid hq
                    clear hq
                    go_wp2
                    refine bodyPost_ret (v := .tuple #[.agg #[.int .i64 0, .string ⟨#[]⟩, .string ⟨#[]⟩, .int .i64 0], .bool false]) (by simp [results, Tryz.results40, asAddr, Result.andThen, go_sem, f0, f1, f2, f3]) rfl ?_
                    exact ⟨⟨0, ⟨#[]⟩, ⟨#[]⟩, 0⟩, false, rfl, (fun h => by cases h), fun _ => yr_false HSS.out HRD.out (.inr (fun e => HEQ.out (HLV.out.symm.trans e))), HOK.out, HF.out.below⟩
end Bn
end Go.Proofs.YtccpkkopniadiaaGreatDoor
