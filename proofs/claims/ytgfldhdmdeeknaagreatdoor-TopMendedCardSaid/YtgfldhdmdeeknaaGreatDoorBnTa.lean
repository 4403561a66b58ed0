/-
  Base texts in one: BnT, BnTw, BnA. Conditions: none beyond each theorem's own premises.
-/
import Derived.Test.YtgfldhdmdeeknaaGreatDoorBnX
import Derived.Test.YtgfldhdmdeeknaaGreatDoorSoW3
/-! The plain law of what a script tells: the lines of answers and of what is kept; how great answers and operations are. Plain Lean, no program. Conditions: none. -/
namespace Go.Proofs.YtgfldhdmdeeknaaGreatDoor
set_option linter.unusedVariables false
namespace So
open _root_.Go.Proofs.YtgfldhdmdeeknaaGreatDoor.Bn _root_.Go.Proofs.YtgfldhdmdeeknaaGreatDoor.Dr

/-! lines -/
def pOk : By := [111, 107]
def pErr : By := [101, 114, 114, 111, 114, 32]
def pKept : By := [107, 101, 112, 116, 32]
def aln (o : Op) (a : An) : By := if a.er = 0 then (if o.kind = 3 then pOk ++ 32 :: hx a.dt.data.toList else pOk) else pErr ++ Lib.itoa a.er
def kln (k : Kp) : By := pKept ++ (k.nm.data.toList ++ 32 :: hx k.dt.data.toList)
def tells (ops : List Op) (an : List An) (ks : List Kp) : List By := List.zipWith aln ops an ++ ks.map kln

/-! how great -/
def Fb (h : Fs) : Prop := ∀ x a, h x = some a → x.size ≤ 12 ∧ a.size ≤ 200
def Cb (C : List Op) : Prop := ∀ o ∈ C, o.kind = 1 → o.nm.size ≤ 12 ∧ o.dt.size ≤ 200
theorem fb_no : Fb mno := fun x a h => by simp [mno] at h
theorem fb_ap {h : Fs} {o : Op} (H : Fb h) (ho : o.kind = 1 → o.nm.size ≤ 12 ∧ o.dt.size ≤ 200) : Fb (ap h o) := by
  intro x a hx
  unfold ap at hx
  split at hx
  · next hk =>
    by_cases e : x = o.nm
    · subst e
      rw [mup_same] at hx
      injection hx with hx
      subst hx
      exact ho hk
    · rw [mup_other _ _ e] at hx
      exact H x a hx
  · by_cases e : x = o.nm
    · subst e
      rw [mdel_same] at hx
      cases hx
    · rw [mdel_other _ e] at hx
      exact H x a hx
theorem fb_now : ∀ (C : List Op) {D : Fs}, Fb D → Cb C → Fb (now D C)
  | [], D, H, _ => H
  | o :: C, D, H, hC => fb_now C (fb_ap H (hC o (by simp))) (fun x hx => hC x (by simp [hx]))
theorem cb_snoc {C : List Op} {o : Op} (H : Cb C) (ho : o.kind = 1 → o.nm.size ≤ 12 ∧ o.dt.size ≤ 200) : Cb (C ++ [o]) := by
  intro x hx
  rcases List.mem_append.1 hx with h | h
  · exact H x h
  · rw [List.mem_singleton.1 h]; exact ho
theorem way_bd {D D' : Fs} {C C' : List Op} {o : Op} {a : An} (hw : Way D C o a D' C') (hD : Fb D) (hC : Cb C) : Fb D' ∧ Cb C' ∧ a.dt.size ≤ 200 ∧ 0 ≤ a.er ∧ a.er ≤ 5 := by
  have hn := fb_now C hD hC
  cases hw with
  | low h => exact ⟨hD, hC, by decide, by decide, by decide⟩
  | high h => exact ⟨hD, hC, by decide, by decide, by decide⟩
  | bad h h1 => exact ⟨hD, hC, by decide, by decide, by decide⟩
  | long h h1 h2 => exact ⟨hD, hC, by decide, by decide, by decide⟩
  | full h h1 h2 h3 n h4 h5 => exact ⟨hD, hC, by decide, by decide, by decide⟩
  | fresh h h1 h2 h3 n h4 h5 => exact ⟨hD, cb_snoc hC (fun _ => ⟨h1.2.1, h2⟩), by decide, by decide, by decide⟩
  | over h h1 h2 a h3 => exact ⟨hD, cb_snoc hC (fun _ => ⟨h1.2.1, h2⟩), by decide, by decide, by decide⟩
  | none2 h h3 => exact ⟨hD, hC, by decide, by decide, by decide⟩
  | none3 h h3 => exact ⟨hD, hC, by decide, by decide, by decide⟩
  | remove h a h3 => exact ⟨hD, cb_snoc hC (fun e => by rw [h] at e; cases e), by decide, by decide, by decide⟩
  | read h a h3 => exact ⟨hD, hC, (hn _ _ h3).2, by simp, by simp⟩
  | sync h => exact ⟨hn, (by intro x hx; cases hx), by decide, by decide, by decide⟩
  | before h h1 => exact ⟨hD, hC, by decide, by decide, by decide⟩
  | crash h k h1 h2 => exact ⟨fb_now _ hD (fun x hx => hC x (List.mem_of_mem_take hx)), (by intro x hx; cases hx), by decide, by decide, by decide⟩
def Ab (a : An) : Prop := a.dt.size ≤ 200 ∧ 0 ≤ a.er ∧ a.er ≤ 5
theorem plays_bd : ∀ {os : List Op} {D : Fs} {C : List Op} {an : List An} {D' : Fs} {C' : List Op}, Plays D C os an D' C' → Fb D → Cb C → Fb D' ∧ Cb C' ∧ ∀ a ∈ an, Ab a
  | [], _, _, _, _, _, h, hD, hC => by cases h; exact ⟨hD, hC, by simp⟩
  | o :: os, _, _, _, _, _, h, hD, hC => by
    cases h with
    | cons hw ht =>
      obtain ⟨h1, h2, h3⟩ := way_bd hw hD hC
      obtain ⟨h4, h5, h6⟩ := plays_bd ht h1 h2
      refine ⟨h4, h5, fun a ha => ?_⟩
      rcases List.mem_cons.1 ha with rfl | ha
      · exact h3
      · exact h6 a ha
theorem kept_bd {h : Fs} {ks : List Kp} (H : Fb h) (K : KeptIs h ks) : ∀ k ∈ ks, k.nm.size ≤ 12 ∧ k.dt.size ≤ 200 := fun k hk => H _ _ ((K.2 k).1 hk)

theorem reads_sz {l : By} {o : Op} (h : Reads l o) : o.nm.size ≤ l.length ∧ o.dt.size ≤ l.length := by
  obtain ⟨hc, hk, rfl⟩ := h
  have z : e0.size = 0 := rfl
  cases hc with
  | write nm dt =>
    have e : lt ⟨1, nm, dt, 0⟩ = pW ++ 32 :: (nm.data.toList ++ 32 :: hx dt.data.toList) := rfl
    have e2 : nm.data.toList.length = nm.size := size_data nm
    have e3 : dt.data.toList.length = dt.size := size_data dt
    have e4 : dt.size ≤ (hx dt.data.toList).length := by
      unfold hx
      split
      · next h => rw [← e3, h]; exact Nat.zero_le _
      · rw [Lib.Hx.encode_length]; omega
    rw [e]
    simp only [List.length_append, List.length_cons]
    show nm.size ≤ _ ∧ dt.size ≤ _
    omega
  | remove nm =>
    have e : lt ⟨2, nm, e0, 0⟩ = pM ++ 32 :: nm.data.toList := rfl
    have e2 : nm.data.toList.length = nm.size := size_data nm
    rw [e]
    simp only [List.length_append, List.length_cons]
    show nm.size ≤ _ ∧ e0.size ≤ _
    omega
  | read nm =>
    have e : lt ⟨3, nm, e0, 0⟩ = pR ++ 32 :: nm.data.toList := rfl
    have e2 : nm.data.toList.length = nm.size := size_data nm
    rw [e]
    simp only [List.length_append, List.length_cons]
    show nm.size ≤ _ ∧ e0.size ≤ _
    omega
  | sync => exact ⟨Nat.zero_le _, Nat.zero_le _⟩
  | crash k => exact ⟨Nat.zero_le _, Nat.zero_le _⟩
  | zero => exact absurd hk (by decide)
theorem pr_sz {B : Nat} : ∀ {s : By} {es : List Op} {r : Option (List Op)} {k : Nat}, PR s es r k → s.length ≤ B → (∀ o ∈ es, o.nm.size ≤ B ∧ o.dt.size ≤ B) → ∀ os, r = some os → os.length ≤ es.length + s.length ∧ ∀ o ∈ os, o.nm.size ≤ B ∧ o.dt.size ≤ B := by
  intro s es r k h
  induction h with
  | done => intro hB he os ho; cases ho; exact ⟨by simp, he⟩
  | rest h hn => intro hB he os ho; cases ho
  | @line l t es o r k hn h ht ih =>
    intro hB he os ho
    rw [List.length_append, List.length_cons] at hB
    have hs := reads_sz h
    obtain ⟨h1, h2⟩ := ih (by omega) (fun x hx => by
      rcases List.mem_append.1 hx with hx | hx
      · exact he x hx
      · rw [List.mem_singleton.1 hx]; omega) os ho
    refine ⟨?_, h2⟩
    rw [List.length_append, List.length_cons]
    rw [List.length_append, List.length_singleton] at h1
    omega
  | bad hn h => intro hB he os ho; cases ho
end So
end Go.Proofs.YtgfldhdmdeeknaaGreatDoor
/-! Walk of bench.Tell. Conditions: none beyond each theorem's own premises. -/
namespace Go.Proofs.YtgfldhdmdeeknaaGreatDoor
open Go.RowKit Go.Shelf Go.Sort
set_option linter.unusedVariables false
namespace So
open _root_.Go.Proofs.YtgfldhdmdeeknaaGreatDoor.Bn _root_.Go.Proofs.YtgfldhdmdeeknaaGreatDoor.Dr

def tc (y : By) : List Value := [.string (bs y)]
theorem tc_len : ∀ y : By, (tc y).length = 1 := fun _ => rfl
theorem aln_err (o : Op) (a : An) (h : ¬ a.er = 0) : bs (aln o a) = ⟨#[101, 114, 114, 111, 114, 32]⟩ ++ bs (Lib.itoa a.er) := by
  unfold aln
  rw [if_neg h, ← bs_cat]
  rfl
theorem aln_read (o : Op) (a : An) (h : a.er = 0) (hk : o.kind = 3) : bs (aln o a) = ⟨#[111, 107, 32]⟩ ++ bs (hx a.dt.data.toList) := by
  unfold aln
  rw [if_pos h, if_pos hk]
  show bs ([111, 107, 32] ++ hx a.dt.data.toList) = _
  rw [← bs_cat]
  rfl
theorem aln_read2 (o : Op) (a : An) (h : a.er = 0) (hk : o.kind = 3) : bs (aln o a) = ⟨#[111, 107]⟩ ++ (⟨#[32]⟩ ++ bs (hx a.dt.data.toList)) := by
  unfold aln
  rw [if_pos h, if_pos hk]
  show bs ([111, 107] ++ ([32] ++ hx a.dt.data.toList)) = _
  rw [← bs_cat, ← bs_cat]
  rfl
theorem aln_ok (o : Op) (a : An) (h : a.er = 0) (hk : ¬ o.kind = 3) : bs (aln o a) = ⟨#[111, 107]⟩ := by
  unfold aln
  rw [if_pos h, if_neg hk]
  rfl
theorem kln_bs (n d : ByteArray) : bs (kln ⟨n, d⟩) = ⟨#[107, 101, 112, 116, 32]⟩ ++ n ++ ⟨#[32]⟩ ++ bs (hx d.data.toList) := by
  show bs (pKept ++ (n.data.toList ++ ([32] ++ hx d.data.toList))) = _
  rw [← bs_cat, ← bs_cat, ← bs_cat, bs_of, ByteArray.append_assoc, ByteArray.append_assoc]
  rfl
def TlRet (w : World) (ops : List Op) (an : List An) (h : Fs) (e : Ending) (w' : World) : Prop :=
  ∃ (ks : List Kp) (A : Option Addr) (p c : Nat), Hid (KeptIs h ks) ∧ Hid ((tells ops an ks).length = p) ∧ p ≤ c ∧ p ≤ 2932098116268 ∧ e = .returned (.tuple #[.slice A p c, .int .i64 0]) ∧ Sep w w' [.row 9 1 (.slice A p c) p ((tells ops an ks).flatMap tc)]

set_option maxRecDepth 100000 in
theorem tell_bad (x : By) (S : ByteArray) (hS : bs x = S) (hl : x.length ≤ 67108865) (kk : Nat) (hr : PR x [] none kk) (w : World) (hg : Gl w) :
    Calls Tryz.prog 9 #[.string S] w (Ret w (.tuple #[.slice none 0 0, .int .i64 1])) := by
  have cP := Lib.hid (parseAll_any x S hS hl none kk hr w hg)
  clear hr hS hl hg
  go_enter Tryz.func9, Tryz.ntmps9
  go_wp2_with fail
  refine cP.out.mono ?_; rintro en w1 ⟨rfl, hb1⟩
  have B1 := Lib.hid hb1
  clear hb1 cP
  go_wp2
  refine bodyPost_ret (v := .tuple #[.slice none 0 0, .int .i64 1]) (by simp [results, Tryz.results9]) rfl ?_
  exact Ret.mk rfl B1.out

set_option maxRecDepth 100000 in
set_option maxHeartbeats 6400000 in
theorem tell_ok (x : By) (S : ByteArray) (hS : bs x = S) (hl : x.length ≤ 67108865) (ops : List Op) (kk : Nat) (hr : PR x [] (some ops) kk) (an : List An) (D1 : Fs) (C1 : List Op) (hp : Plays mno [] ops an D1 C1) (w : World) (hg : Gl w) :
    Calls Tryz.prog 9 #[.string S] w (TlRet w ops an (now D1 C1)) := by
  obtain ⟨ti, hti, t0, t1, t2⟩ := info_parts string_info
  obtain ⟨n, hn⟩ : ∃ n, ops.length = n := ⟨_, rfl⟩
  have hsz := pr_sz (B := 67108865) hr hl (by simp) ops rfl
  have hnn : n ≤ 67108865 := by have := hsz.1; simp at this; omega
  have hla := plays_len hp
  have hbd := plays_bd hp fb_no (by intro x hx; cases hx)
  have HLA := Lib.hid (hla.trans hn)
  have HN := Lib.hid hn
  have HAB := Lib.hid hbd.2.2
  have HKB : Hid (Fb (now D1 C1)) := Lib.hid (fb_now C1 hbd.1 hbd.2.1)
  have HTI := Lib.hid (And.intro hti (And.intro t0 (And.intro t1 t2)))
  have cP := Lib.hid (parseAll_any x S hS hl (some ops) kk hr w hg)
  have cY := Lib.hid (fun A c W (h : Rd W W.heap.size 4 A n (ops.flatMap Op.cells)) => play_any A n c ops an D1 C1 W h hn (by omega) hp (fun o ho => ⟨Nat.le_trans (hsz.2 o ho).1 (by decide), Nat.le_trans (hsz.2 o ho).2 (by decide)⟩))
  have HG := Lib.hid hg
  clear hr hp hS hl hla hbd hsz hg hn
  go_enter Tryz.func9, Tryz.ntmps9
  go_wp2_with fail
  refine cP.out.mono ?_; rintro en w1 ⟨A0, c0, hc0, rfl, hs1⟩
  rw [HN.out] at hc0 hs1 ⊢
  have H1 := Lib.hid hs1
  clear hs1 cP
  go_wp2_with fail
  refine (cY.out A0 c0 w1 (H1.out.rd 0 rfl)).mono ?_; rintro en w2 ⟨A1, c1, A2, m, c2, ks, rfl, HLK, HK, hc1, hm, hs2⟩
  have H2 := Lib.hid ((H1.out.join hs2).nilRow 9 1 none)
  have HKS := Lib.hid (kept_bd HKB.out HK.out)
  clear hs2 cY H1 HKB
  obtain ⟨Z0, hZ0⟩ : ∃ Z0, List.zipWith aln ops an = Z0 := ⟨_, rfl⟩
  have HZ0 := Lib.hid hZ0
  have HZL : Hid (Z0.length = n) := Lib.hid (by rw [← hZ0, List.length_zipWith, HN.out, HLA.out, Nat.min_self])
  clear hZ0
  go_wp2
  go_loopg [9, 30] n (fun q v9 i wr => ∃ (k : Nat) (A9 : Option Addr) (c9 : Nat), k ≤ n ∧ q = n - k ∧ i = .int .i64 (k : Int) ∧ v9 = .slice A9 k c9 ∧ Sep w wr [oR A0 n c0 ops, aR A1 n c1 an, kR A2 m c2 ks, .row 9 1 (.slice A9 k c9) k ((Z0.take k).flatMap tc)])
  case atStart => exact ⟨0, none, 0, Nat.zero_le _, rfl, rfl, rfl, H2.out⟩
  case round =>
    clear H2
    obtain ⟨k, A9, c9, hk, rfl, rfl, rfl, hs⟩ := hrel
    have HS := Lib.hid hs
    clear hs
    by_cases hlt : k < n
    · have i0 : (0 : Int) ≤ (k : Int) := by omega
      have i1 : (k : Int) < (n : Int) := by omega
      obtain ⟨⟨er, dd⟩, ha⟩ : ∃ a, an[k]? = some a := ⟨_, List.getElem?_eq_getElem (by rw [HLA.out]; exact hlt)⟩
      obtain ⟨⟨ki, nm, dt, kp⟩, ho⟩ : ∃ o, ops[k]? = some o := ⟨_, List.getElem?_eq_getElem (by rw [HN.out]; exact hlt)⟩
      obtain ⟨b, off, rfl, hb, hc⟩ := (HS.out.rd 1 rfl).at_ An.len (by omega)
      have q0 : wr.cell? ⟨b, off + k * 2, none⟩ = some (.int .i64 er) := hc k 0 _ _ ha rfl
      have q1 : wr.cell? ⟨b, off + k * 2 + 1, none⟩ = some (.string dd) := hc k 1 _ _ ha rfl
      have HA1 := Lib.hid (HAB.out _ (List.mem_of_getElem? ha))
      have HT0 : Hid ((Z0.take (k + 1)).flatMap tc = (Z0.take k).flatMap tc ++ [.string (bs (aln ⟨ki, nm, dt, kp⟩ ⟨er, dd⟩))]) := Lib.hid (by
        have h : Z0[k]? = some (aln ⟨ki, nm, dt, kp⟩ ⟨er, dd⟩) := by rw [← HZ0.out, List.getElem?_zipWith, ho, ha]
        rw [List.take_add_one, h, List.flatMap_append]
        rfl)
      have HS2 : Hid (Sep w (wr.alloc (.cells #[.int .i64 er, .string dd] 53)) [oR A0 n c0 ops, aR (some ⟨b, off, none⟩) n c1 an, kR A2 m c2 ks, .row 9 1 (.slice A9 k c9) k ((Z0.take k).flatMap tc), .cells wr.heap.size 53 [.int .i64 er, .string dd]]) := Lib.hid (HS.out.new 53 [.int .i64 er, .string dd])
      clear hc hb ha HS
      go_upto_region 10 with (fail)
      clear q0 q1
      generalize wr.alloc (.cells #[.int .i64 er, .string dd] 53) = wo at HS2 ⊢
      generalize wr.heap.size = gx at HS2 ⊢
      have p0 := HS2.out.cell 4 rfl (k := 0) rfl
      have p1 := HS2.out.cell 4 rfl (k := 1) rfl
      obtain ⟨b2, off2, rfl, hb2, hc2⟩ := (HS2.out.rd 0 rfl).at_ Op.len (by omega)
      have r0 : wo.cell? ⟨b2, off2 + k * 4, none⟩ = some (.int .i64 ki) := hc2 k 0 _ _ ho rfl
      have HGO := Lib.hid (HG.out.later HS2.out.below)
      clear hc2 hb2 ho
      by_cases h0 : er = 0
      · subst h0
        by_cases h3 : ki = 3
        · subst h3
          have HZ := Lib.hid (aln_read ⟨3, nm, dt, kp⟩ ⟨0, dd⟩ rfl rfl)
          have CD := Lib.hid (digits_any dd.data.toList dd (bs_of dd) (by rw [size_data]; have := HA1.out.1; simp only at this; omega) wo)
          have hHs : (bs (hx dd.data.toList)).size ≤ 401 := by
            have h1 := hx_len dd.data.toList
            have h2 := HA1.out.1
            rw [size_data] at h1
            rw [bs_size]
            simp only at h2
            omega
          obtain ⟨H, hH⟩ : ∃ H, bs (hx dd.data.toList) = H := ⟨_, rfl⟩
          obtain ⟨Z, hZ⟩ : ∃ Z, (⟨#[111, 107, 32]⟩ : ByteArray) ++ H = Z := ⟨_, rfl⟩
          have HT : Hid ((Z0.take (k + 1)).flatMap tc = (Z0.take k).flatMap tc ++ [.string Z]) := Lib.hid (by rw [HT0.out, HZ.out]; simp only; rw [hH, hZ])
          rw [hH] at CD hHs
          have z1 : 3 + H.size ≤ 9223372036854775807 := by omega
          clear hH HZ HT0 hHs
          go_wp2_with fail
          refine CD.out.mono ?_; rintro en w3 ⟨rfl, hb3⟩
          have HS3 := Lib.hid (HS2.out.later hb3)
          have hnew := Lib.hid (Rd.of_own (own_new w3 9 #[.string Z] 1 1 rfl (by simp [maxLen]) (Nat.le_refl _)))
          clear hb3 CD HS2 p0 p1 r0
          go_wp2_with (at_builtin; refine wpList_append_sep (HS3.out.alloc _) 3 rfl (.tmp 56) (.tmp 61) 33 rfl 9 ti (.string ⟨#[]⟩) 1 16 Tryz.underlying33 hti t0 t1 t2 rfl (by omega) _ k _ rfl rfl _ _ 1 1 _ rfl hnew.out (by simp [Value.oneCell']) (by simp only [maxLen]; omega) (by omega) ?_; intro A6 c6 w6 hc6 hs6 H6'; have H6 := Lib.hid H6'; clear H6' hs6)
          go_roundg (n - (k + 1))
          case measure => omega
          case rel => exact ⟨k + 1, A6, c6, by omega, rfl, by go_num, rfl, by
            have h := H6.out.pick [0, 1, 2, 3] (by decide) (by simp)
            rw [HT.out]
            exact h⟩
        · have h3' : (ki == 3) = false := by simp [h3]
          have HZ := Lib.hid (aln_ok ⟨ki, nm, dt, kp⟩ ⟨0, dd⟩ rfl h3)
          have HT : Hid ((Z0.take (k + 1)).flatMap tc = (Z0.take k).flatMap tc ++ [.string ⟨#[111, 107]⟩]) := Lib.hid (by rw [HT0.out, HZ.out])
          have HS3 := HS2
          have hnew := Lib.hid (Rd.of_own (own_new wo 9 #[.string ⟨#[111, 107]⟩] 1 1 rfl (by simp [maxLen]) (Nat.le_refl _)))
          clear HZ HT0 HS2 h3
          go_wp2_with (at_builtin; refine wpList_append_sep (HS3.out.alloc _) 3 rfl (.tmp 35) (.tmp 36) 33 rfl 9 ti (.string ⟨#[]⟩) 1 16 Tryz.underlying33 hti t0 t1 t2 rfl (by omega) _ k _ rfl rfl _ _ 1 1 _ rfl hnew.out (by simp [Value.oneCell']) (by simp only [maxLen]; omega) (by omega) ?_; intro A6 c6 w6 hc6 hs6 H6'; have H6 := Lib.hid H6'; clear H6' hs6)
          go_roundg (n - (k + 1))
          case measure => omega
          case rel => exact ⟨k + 1, A6, c6, by omega, rfl, by go_num, rfl, by
            have h := H6.out.pick [0, 1, 2, 3] (by decide) (by simp)
            rw [HT.out]
            exact h⟩
      · have e1 : (er == 0) = false := by simp [h0]
        have e2 : (er != 0) = true := by simp [h0]
        have HZ := Lib.hid (aln_err ⟨ki, nm, dt, kp⟩ ⟨er, dd⟩ h0)
        have CD := Lib.hid (itoa_any er (by have := HA1.out.2.1; simp only at this; omega) (by have := HA1.out.2.2; simp only at this; omega) wo HGO.out)
        have hHs : (bs (Lib.itoa er)).size ≤ 401 := by
          have h1 := Lib.itoa_length_le er (by have := HA1.out.2.1; simp only at this; omega) (by have := HA1.out.2.2; simp only at this; omega)
          rw [bs_size]
          omega
        obtain ⟨H, hH⟩ : ∃ H, bs (Lib.itoa er) = H := ⟨_, rfl⟩
        obtain ⟨Z, hZ⟩ : ∃ Z, (⟨#[101, 114, 114, 111, 114, 32]⟩ : ByteArray) ++ H = Z := ⟨_, rfl⟩
        have HT : Hid ((Z0.take (k + 1)).flatMap tc = (Z0.take k).flatMap tc ++ [.string Z]) := Lib.hid (by rw [HT0.out, HZ.out]; simp only; rw [hH, hZ])
        rw [hH] at CD hHs
        have z1 : 6 + H.size ≤ 9223372036854775807 := by omega
        clear hH HZ HT0 hHs h0
        go_wp2_with fail
        refine CD.out.mono ?_; rintro en w3 ⟨rfl, hb3⟩
        have HS3 := Lib.hid (HS2.out.later hb3)
        have hnew := Lib.hid (Rd.of_own (own_new w3 9 #[.string Z] 1 1 rfl (by simp [maxLen]) (Nat.le_refl _)))
        clear hb3 CD HS2 p0 p1 r0
        go_wp2_with (at_builtin; refine wpList_append_sep (HS3.out.alloc _) 3 rfl (.tmp 42) (.tmp 47) 33 rfl 9 ti (.string ⟨#[]⟩) 1 16 Tryz.underlying33 hti t0 t1 t2 rfl (by omega) _ k _ rfl rfl _ _ 1 1 _ rfl hnew.out (by simp [Value.oneCell']) (by simp only [maxLen]; omega) (by omega) ?_; intro A6 c6 w6 hc6 hs6 H6'; have H6 := Lib.hid H6'; clear H6' hs6)
        go_roundg (n - (k + 1))
        case measure => omega
        case rel => exact ⟨k + 1, A6, c6, by omega, rfl, by go_num, rfl, by
          have h := H6.out.pick [0, 1, 2, 3] (by decide) (by simp)
          rw [HT.out]
          exact h⟩
    · obtain rfl : k = n := by omega
      have HTK : Hid (Z0.take k = Z0) := Lib.hid (by rw [← HZL.out]; exact List.take_length)
      have hS0 := HS.out.pick [2, 3] (by decide) (by simp)
      rw [HTK.out] at hS0
      have H3 : Hid (Sep w wr [kR A2 m c2 ks, .row 9 1 (.slice A9 k c9) k (Z0.flatMap tc)]) := Lib.hid hS0
      clear hS0 HS HTK hlt
      go_wp2
      generalize wr = wb at H3 ⊢
      go_loopg [9, 66] m (fun q v9 i wr => ∃ (j p : Nat) (A9 : Option Addr) (c9 : Nat), j ≤ m ∧ q = m - j ∧ i = .int .i64 (j : Int) ∧ Hid (p = k + j) ∧ v9 = .slice A9 p c9 ∧ Sep w wr [kR A2 m c2 ks, .row 9 1 (.slice A9 p c9) p ((Z0 ++ (ks.take j).map kln).flatMap tc)])
      case atStart => exact ⟨0, k, A9, c9, Nat.zero_le _, rfl, rfl, Lib.hid rfl, rfl, by simpa using H3.out⟩
      case round =>
        clear H3
        obtain ⟨j, p, A9, c9, hj, rfl, rfl, HP, rfl, hs⟩ := hrel
        have hpb : p ≤ 2932098116268 := by have := HP.out; omega
        have HS0 := Lib.hid hs
        clear hs
        by_cases hlt : j < m
        · have i0 : (0 : Int) ≤ (j : Int) := by omega
          have i1 : (j : Int) < (m : Int) := by omega
          obtain ⟨⟨NM, DT⟩, hxk⟩ : ∃ x, ks[j]? = some x := ⟨_, List.getElem?_eq_getElem (by rw [HLK.out]; exact hlt)⟩
          obtain ⟨b, off, rfl, hb, hc⟩ := (HS0.out.rd 0 rfl).at_ Kp.len (by omega)
          have q0 : wr.cell? ⟨b, off + j * 2, none⟩ = some (.string NM) := hc j 0 _ _ hxk rfl
          have q1 : wr.cell? ⟨b, off + j * 2 + 1, none⟩ = some (.string DT) := hc j 1 _ _ hxk rfl
          have hkb := HKS.out _ (List.mem_of_getElem? hxk)
          have CD := Lib.hid (fun W => digits_any DT.data.toList DT (bs_of DT) (by rw [size_data]; have := hkb.2; simp only at this; omega) W)
          have hHs : (bs (hx DT.data.toList)).size ≤ 401 := by
            have h1 := hx_len DT.data.toList
            have h2 := hkb.2
            rw [size_data] at h1
            rw [bs_size]
            simp only at h2
            omega
          have hNs : NM.size ≤ 12 := hkb.1
          obtain ⟨H, hH⟩ : ∃ H, bs (hx DT.data.toList) = H := ⟨_, rfl⟩
          obtain ⟨S1, hS1⟩ : ∃ S1, (⟨#[107, 101, 112, 116, 32]⟩ : ByteArray) ++ NM = S1 := ⟨_, rfl⟩
          obtain ⟨S2, hS2⟩ : ∃ S2, S1 ++ (⟨#[32]⟩ : ByteArray) = S2 := ⟨_, rfl⟩
          obtain ⟨Z, hZ⟩ : ∃ Z, S2 ++ H = Z := ⟨_, rfl⟩
          rw [hH] at CD hHs
          have HXN : Hid ((Z0 ++ (ks.take (j + 1)).map kln).flatMap tc = (Z0 ++ (ks.take j).map kln).flatMap tc ++ [.string Z]) := Lib.hid (by
            rw [List.take_add_one, hxk, List.map_append, ← List.append_assoc, List.flatMap_append]
            congr 1
            show [Value.string (bs (kln ⟨NM, DT⟩))] = _
            rw [kln_bs, hH, hS1, hS2, hZ])
          have e1 : S1.size = 5 + NM.size := by rw [← hS1, ByteArray.size_append]; rfl
          have e2 : S2.size = 5 + NM.size + 1 := by rw [← hS2, ByteArray.size_append, e1]; rfl
          have z1 : ¬ 9223372036854775807 < 5 + NM.size := by omega
          have z2 : ¬ 9223372036854775807 < S1.size + 1 := by omega
          have z3 : ¬ 9223372036854775807 < S2.size + H.size := by omega
          obtain ⟨xs, hxs⟩ : ∃ xs, (Z0 ++ (ks.take j).map kln).flatMap tc = xs := ⟨_, rfl⟩
          rw [hxs] at HS0 HXN
          have HS : Hid (Sep w (wr.alloc (.cells #[.string NM, .string DT] 59)) [kR (some ⟨b, off, none⟩) m c2 ks, .row 9 1 (.slice A9 p c9) p xs, .cells wr.heap.size 59 [.string NM, .string DT]]) := Lib.hid (HS0.out.new 59 [.string NM, .string DT])
          clear hc hb hxk hkb hH hxs HS0 e1 e2 hHs hNs
          go_upto_region 18 with (fail)
          clear q0 q1
          generalize wr.alloc (.cells #[.string NM, .string DT] 59) = wo at HS ⊢
          generalize wr.heap.size = gx at HS ⊢
          clear hti t0 t1 t2
          refine wp_region_inv0 (fun ac0 L ac w' => ∃ x9 x70 x71 x72 x73 x74 x75 x76 x77 x78 x79 x80, ac = turn ac0 [(9, x9), (70, x70), (71, x71), (72, x72), (73, x73), (74, x74), (75, x75), (76, x76), (77, x77), (78, x78), (79, x79), (80, x80)] ∧ (L 0 = true → x70 = .slice A9 p c9) ∧ (L 1 = true → x71 = .pointer (some ⟨gx, 0, none⟩)) ∧ (L 2 = true → x72 = .string NM) ∧ (L 3 = true → x73 = .string S1) ∧ (L 4 = true → x74 = .string S2) ∧ (L 5 = true → x75 = .pointer (some ⟨gx, 1, none⟩)) ∧ (L 6 = true → x76 = .string DT) ∧ (L 8 = true → x78 = .string Z) ∧ (L 11 = true → x9 = x80) ∧ (L 2 = true → L 1 = true) ∧ (L 3 = true → L 2 = true) ∧ (L 4 = true → L 3 = true) ∧ (L 6 = true → L 5 = true) ∧ (L 7 = true → L 6 = true) ∧ (L 8 = true → L 4 = true ∧ L 7 = true) ∧ (L 9 = true → L 8 = true) ∧ (L 10 = true → L 0 = true ∧ L 7 = true ∧ L 9 = true) ∧ (L 11 = true → L 0 = true ∧ L 1 = true ∧ L 2 = true ∧ L 3 = true ∧ L 4 = true ∧ L 5 = true ∧ L 6 = true ∧ L 7 = true ∧ L 8 = true ∧ L 9 = true ∧ L 10 = true) ∧ (L 11 = false → x9 = .slice A9 p c9) ∧ (if L 10 = true then (∃ A' c', x80 = .slice A' (p + 1) c' ∧ p + 1 ≤ c' ∧ Sep w w' [kR (some ⟨b, off, none⟩) m c2 ks, .row 9 1 (.slice A' (p + 1) c') (p + 1) (xs ++ [.string Z])]) else (if L 9 = true then (∃ gv, x79 = .slice (some ⟨gv, 0, none⟩) 1 1 ∧ Sep w w' [kR (some ⟨b, off, none⟩) m c2 ks, .row 9 1 (.slice A9 p c9) p xs, .cells gx 59 [.string NM, .string DT], .cells gv 9 [.string Z]]) else (if L 7 = true then (x77 = .string H ∧ Sep w w' [kR (some ⟨b, off, none⟩) m c2 ks, .row 9 1 (.slice A9 p c9) p xs, .cells gx 59 [.string NM, .string DT]]) else Sep w w' [kR (some ⟨b, off, none⟩) m c2 ks, .row 9 1 (.slice A9 p c9) p xs, .cells gx 59 [.string NM, .string DT]])))) rfl (by kernel_rfl) ?_ ?_ ?_
          · simp only [turn, List.foldl_cons, List.foldl_nil, List.setIfInBounds_toArray, List.set_cons_succ, List.set_cons_zero]
            exact ⟨_, _, _, _, _, _, _, _, _, _, _, _, rfl, (fun h => absurd h (by decide)), (fun h => absurd h (by decide)), (fun h => absurd h (by decide)), (fun h => absurd h (by decide)), (fun h => absurd h (by decide)), (fun h => absurd h (by decide)), (fun h => absurd h (by decide)), (fun h => absurd h (by decide)), (fun h => absurd h (by decide)), (fun h => absurd h (by decide)), (fun h => absurd h (by decide)), (fun h => absurd h (by decide)), (fun h => absurd h (by decide)), (fun h => absurd h (by decide)), (fun h => absurd h (by decide)), (fun h => absurd h (by decide)), (fun h => absurd h (by decide)), (fun h => absurd h (by decide)), (fun _ => rfl), by simpa using HS.out.drew⟩
          · rintro L ac w' i o ⟨x9, x70, x71, x72, x73, x74, x75, x76, x77, x78, x79, x80, ha, p0, p1, p2, p3, p4, p5, p6, p8, p11, q2, q3, q4, q6, q7, q8, q9, q10, q11, n11, hS⟩ ho hi he
            simp only [turn, List.foldl_cons, List.foldl_nil, List.setIfInBounds_toArray, List.set_cons_succ, List.set_cons_zero] at ha ⊢
            subst ha
            rcases i with _|_|_|_|_|_|_|_|_|_|_|_|i
            all_goals cases ho
            all_goals simp [Region.binds] at he
            · have h10 : L 10 = false := by cases hh : L 10 with | false => rfl | true => (have hq := q10 hh; simp [hi] at hq)
              have h11 : L 11 = false := by cases hh : L 11 with | false => rfl | true => (have hq := q11 hh; simp [hi] at hq)
              obtain rfl := n11 h11
              refine wpOp_step rfl (fun K hK => ?_)
              go_simp
              exact hK _ _ ⟨_, _, _, _, _, _, _, _, _, _, _, _, rfl, (fun _ => rfl), (by first | exact p1 | exact fun _ => rfl), (by first | exact p2 | exact fun _ => rfl), (by first | exact p3 | exact fun _ => rfl), (by first | exact p4 | exact fun _ => rfl), (by first | exact p5 | exact fun _ => rfl), (by first | exact p6 | exact fun _ => rfl), (by first | exact p8 | exact fun _ => rfl), (by simp [h11]), (by simpa using q2), (by simpa using q3), (by simpa using q4), (by simpa using q6), (by simpa using q7), (by simpa using q8), (by simpa using q9), (by simp [h10]), (by simp [h11]), (by first | exact fun _ => rfl | exact n11), (by simpa [h10, h11] using hS)⟩
            · have h2 : L 2 = false := by cases hh : L 2 with | false => rfl | true => (have hq := q2 hh; simp [hi] at hq)
              have h11 : L 11 = false := by cases hh : L 11 with | false => rfl | true => (have hq := q11 hh; simp [hi] at hq)
              have h3 : L 3 = false := by cases hh : L 3 with | false => rfl | true => (have hq := q3 hh; simp [h2] at hq)
              have h4 : L 4 = false := by cases hh : L 4 with | false => rfl | true => (have hq := q4 hh; simp [h3] at hq)
              have h8 : L 8 = false := by cases hh : L 8 with | false => rfl | true => (have hq := q8 hh; simp [h4] at hq)
              have h9 : L 9 = false := by cases hh : L 9 with | false => rfl | true => (have hq := q9 hh; simp [h8] at hq)
              have h10 : L 10 = false := by cases hh : L 10 with | false => rfl | true => (have hq := q10 hh; simp [h9] at hq)
              refine wpOp_step rfl (fun K hK => ?_)
              go_simp
              exact hK _ _ ⟨_, _, _, _, _, _, _, _, _, _, _, _, rfl, (by first | exact p0 | exact fun _ => rfl), (fun _ => rfl), (by simp [h2]), (by simp [h3]), (by simp [h4]), (by first | exact p5 | exact fun _ => rfl), (by first | exact p6 | exact fun _ => rfl), (by simp [h8]), (by simp [h11]), (by simp [h2]), (by simp [h3]), (by simp [h4]), (by simpa using q6), (by simpa using q7), (by simp [h8]), (by simp [h9]), (by simp [h10]), (by simp [h11]), (by first | exact fun _ => rfl | exact n11), (by simpa [h2, h11, h3, h4, h8, h9, h10] using hS)⟩
            · have h3 : L 3 = false := by cases hh : L 3 with | false => rfl | true => (have hq := q3 hh; simp [hi] at hq)
              have h11 : L 11 = false := by cases hh : L 11 with | false => rfl | true => (have hq := q11 hh; simp [hi] at hq)
              have h4 : L 4 = false := by cases hh : L 4 with | false => rfl | true => (have hq := q4 hh; simp [h3] at hq)
              have h8 : L 8 = false := by cases hh : L 8 with | false => rfl | true => (have hq := q8 hh; simp [h4] at hq)
              have h9 : L 9 = false := by cases hh : L 9 with | false => rfl | true => (have hq := q9 hh; simp [h8] at hq)
              have h10 : L 10 = false := by cases hh : L 10 with | false => rfl | true => (have hq := q10 hh; simp [h9] at hq)
              obtain rfl := p1 (by simp [he])
              have f0 : w'.cell? ⟨gx, 0, none⟩ = some (.string NM) := by
                rw [if_neg (by simp [h10]), if_neg (by simp [h9])] at hS
                split at hS
                · exact hS.2.cell 2 rfl (k := 0) rfl
                · exact hS.cell 2 rfl (k := 0) rfl
              refine wpOp_step rfl (fun K hK => ?_)
              go_simp
              exact hK _ _ ⟨_, _, _, _, _, _, _, _, _, _, _, _, rfl, (by first | exact p0 | exact fun _ => rfl), (by first | exact p1 | exact fun _ => rfl), (fun _ => rfl), (by simp [h3]), (by simp [h4]), (by first | exact p5 | exact fun _ => rfl), (by first | exact p6 | exact fun _ => rfl), (by simp [h8]), (by simp [h11]), (by simp [he]), (by simp [h3]), (by simp [h4]), (by simpa using q6), (by simpa using q7), (by simp [h8]), (by simp [h9]), (by simp [h10]), (by simp [h11]), (by first | exact fun _ => rfl | exact n11), (by simpa [h3, h11, h4, h8, h9, h10] using hS)⟩
            · have h4 : L 4 = false := by cases hh : L 4 with | false => rfl | true => (have hq := q4 hh; simp [hi] at hq)
              have h11 : L 11 = false := by cases hh : L 11 with | false => rfl | true => (have hq := q11 hh; simp [hi] at hq)
              have h8 : L 8 = false := by cases hh : L 8 with | false => rfl | true => (have hq := q8 hh; simp [h4] at hq)
              have h9 : L 9 = false := by cases hh : L 9 with | false => rfl | true => (have hq := q9 hh; simp [h8] at hq)
              have h10 : L 10 = false := by cases hh : L 10 with | false => rfl | true => (have hq := q10 hh; simp [h9] at hq)
              obtain rfl := p2 (by simp [he])
              refine wpOp_step rfl (fun K hK => ?_)
              go_simp
              exact hK _ _ ⟨_, _, _, _, _, _, _, _, _, _, _, _, rfl, (by first | exact p0 | exact fun _ => rfl), (by first | exact p1 | exact fun _ => rfl), (by first | exact p2 | exact fun _ => rfl), (fun _ => rfl), (by simp [h4]), (by first | exact p5 | exact fun _ => rfl), (by first | exact p6 | exact fun _ => rfl), (by simp [h8]), (by simp [h11]), (by simpa using q2), (by simp [he]), (by simp [h4]), (by simpa using q6), (by simpa using q7), (by simp [h8]), (by simp [h9]), (by simp [h10]), (by simp [h11]), (by first | exact fun _ => rfl | exact n11), (by simpa [h4, h11, h8, h9, h10] using hS)⟩
            · have h8 : L 8 = false := by cases hh : L 8 with | false => rfl | true => (have hq := q8 hh; simp [hi] at hq)
              have h11 : L 11 = false := by cases hh : L 11 with | false => rfl | true => (have hq := q11 hh; simp [hi] at hq)
              have h9 : L 9 = false := by cases hh : L 9 with | false => rfl | true => (have hq := q9 hh; simp [h8] at hq)
              have h10 : L 10 = false := by cases hh : L 10 with | false => rfl | true => (have hq := q10 hh; simp [h9] at hq)
              obtain rfl := p3 (by simp [he])
              refine wpOp_step rfl (fun K hK => ?_)
              go_simp
              exact hK _ _ ⟨_, _, _, _, _, _, _, _, _, _, _, _, rfl, (by first | exact p0 | exact fun _ => rfl), (by first | exact p1 | exact fun _ => rfl), (by first | exact p2 | exact fun _ => rfl), (by first | exact p3 | exact fun _ => rfl), (fun _ => rfl), (by first | exact p5 | exact fun _ => rfl), (by first | exact p6 | exact fun _ => rfl), (by simp [h8]), (by simp [h11]), (by simpa using q2), (by simpa using q3), (by simp [he]), (by simpa using q6), (by simpa using q7), (by simp [h8]), (by simp [h9]), (by simp [h10]), (by simp [h11]), (by first | exact fun _ => rfl | exact n11), (by simpa [h8, h11, h9, h10] using hS)⟩
            · have h6 : L 6 = false := by cases hh : L 6 with | false => rfl | true => (have hq := q6 hh; simp [hi] at hq)
              have h11 : L 11 = false := by cases hh : L 11 with | false => rfl | true => (have hq := q11 hh; simp [hi] at hq)
              have h7 : L 7 = false := by cases hh : L 7 with | false => rfl | true => (have hq := q7 hh; simp [h6] at hq)
              have h8 : L 8 = false := by cases hh : L 8 with | false => rfl | true => (have hq := q8 hh; simp [h7] at hq)
              have h10 : L 10 = false := by cases hh : L 10 with | false => rfl | true => (have hq := q10 hh; simp [h7] at hq)
              have h9 : L 9 = false := by cases hh : L 9 with | false => rfl | true => (have hq := q9 hh; simp [h8] at hq)
              refine wpOp_step rfl (fun K hK => ?_)
              go_simp
              exact hK _ _ ⟨_, _, _, _, _, _, _, _, _, _, _, _, rfl, (by first | exact p0 | exact fun _ => rfl), (by first | exact p1 | exact fun _ => rfl), (by first | exact p2 | exact fun _ => rfl), (by first | exact p3 | exact fun _ => rfl), (by first | exact p4 | exact fun _ => rfl), (fun _ => rfl), (by simp [h6]), (by simp [h8]), (by simp [h11]), (by simpa using q2), (by simpa using q3), (by simpa using q4), (by simp [h6]), (by simp [h7]), (by simp [h8]), (by simp [h9]), (by simp [h10]), (by simp [h11]), (by first | exact fun _ => rfl | exact n11), (by simpa [h6, h11, h7, h8, h10, h9] using hS)⟩
            · have h7 : L 7 = false := by cases hh : L 7 with | false => rfl | true => (have hq := q7 hh; simp [hi] at hq)
              have h11 : L 11 = false := by cases hh : L 11 with | false => rfl | true => (have hq := q11 hh; simp [hi] at hq)
              have h8 : L 8 = false := by cases hh : L 8 with | false => rfl | true => (have hq := q8 hh; simp [h7] at hq)
              have h10 : L 10 = false := by cases hh : L 10 with | false => rfl | true => (have hq := q10 hh; simp [h7] at hq)
              have h9 : L 9 = false := by cases hh : L 9 with | false => rfl | true => (have hq := q9 hh; simp [h8] at hq)
              obtain rfl := p5 (by simp [he])
              have f0 : w'.cell? ⟨gx, 1, none⟩ = some (.string DT) := by
                rw [if_neg (by simp [h10]), if_neg (by simp [h9]), if_neg (by simp [h7])] at hS
                exact hS.cell 2 rfl (k := 1) rfl
              refine wpOp_step rfl (fun K hK => ?_)
              go_simp
              exact hK _ _ ⟨_, _, _, _, _, _, _, _, _, _, _, _, rfl, (by first | exact p0 | exact fun _ => rfl), (by first | exact p1 | exact fun _ => rfl), (by first | exact p2 | exact fun _ => rfl), (by first | exact p3 | exact fun _ => rfl), (by first | exact p4 | exact fun _ => rfl), (by first | exact p5 | exact fun _ => rfl), (fun _ => rfl), (by simp [h8]), (by simp [h11]), (by simpa using q2), (by simpa using q3), (by simpa using q4), (by simp [he]), (by simp [h7]), (by simp [h8]), (by simp [h9]), (by simp [h10]), (by simp [h11]), (by first | exact fun _ => rfl | exact n11), (by simpa [h7, h11, h8, h10, h9] using hS)⟩
            · have h8 : L 8 = false := by cases hh : L 8 with | false => rfl | true => (have hq := q8 hh; simp [hi] at hq)
              have h10 : L 10 = false := by cases hh : L 10 with | false => rfl | true => (have hq := q10 hh; simp [hi] at hq)
              have h11 : L 11 = false := by cases hh : L 11 with | false => rfl | true => (have hq := q11 hh; simp [hi] at hq)
              have h9 : L 9 = false := by cases hh : L 9 with | false => rfl | true => (have hq := q9 hh; simp [h8] at hq)
              obtain rfl := p6 (by simp [he])
              rw [if_neg (by simp [h10]), if_neg (by simp [h9]), if_neg (by simp [hi])] at hS
              refine wpOp_step rfl (fun K hK => ?_)
              go_simp
              refine (CD.out w').mono ?_; rintro en w5 ⟨rfl, hb5⟩
              have hN := hS.later hb5
              exact hK _ _ ⟨_, _, _, _, _, _, _, _, _, _, _, _, rfl, (by first | exact p0 | exact fun _ => rfl), (by first | exact p1 | exact fun _ => rfl), (by first | exact p2 | exact fun _ => rfl), (by first | exact p3 | exact fun _ => rfl), (by first | exact p4 | exact fun _ => rfl), (by first | exact p5 | exact fun _ => rfl), (by first | exact p6 | exact fun _ => rfl), (by simp [h8]), (by simp [h11]), (by simpa using q2), (by simpa using q3), (by simpa using q4), (by simpa using q6), (by simp [he]), (by simp [h8]), (by simp [h9]), (by simp [h10]), (by simp [h11]), (by first | exact fun _ => rfl | exact n11), (by rw [if_neg (by simp [h10]), if_neg (by simp [h9]), if_pos (by simp)]; exact ⟨rfl, hN⟩)⟩
            · have h9 : L 9 = false := by cases hh : L 9 with | false => rfl | true => (have hq := q9 hh; simp [hi] at hq)
              have h11 : L 11 = false := by cases hh : L 11 with | false => rfl | true => (have hq := q11 hh; simp [hi] at hq)
              have h10 : L 10 = false := by cases hh : L 10 with | false => rfl | true => (have hq := q10 hh; simp [h9] at hq)
              obtain rfl := p4 (by simp [he])
              obtain rfl : x77 = .string H := by
                rw [if_neg (by simp [h10]), if_neg (by simp [h9]), if_pos (by simp [he])] at hS
                exact hS.1
              refine wpOp_step rfl (fun K hK => ?_)
              go_simp
              exact hK _ _ ⟨_, _, _, _, _, _, _, _, _, _, _, _, rfl, (by first | exact p0 | exact fun _ => rfl), (by first | exact p1 | exact fun _ => rfl), (by first | exact p2 | exact fun _ => rfl), (by first | exact p3 | exact fun _ => rfl), (by first | exact p4 | exact fun _ => rfl), (by first | exact p5 | exact fun _ => rfl), (by first | exact p6 | exact fun _ => rfl), (fun _ => rfl), (by simp [h11]), (by simpa using q2), (by simpa using q3), (by simpa using q4), (by simpa using q6), (by simpa using q7), (by simp [he]), (by simp [h9]), (by simp [h10]), (by simp [h11]), (by first | exact fun _ => rfl | exact n11), (by simpa [h9, h11, h10] using hS)⟩
            · have h10 : L 10 = false := by cases hh : L 10 with | false => rfl | true => (have hq := q10 hh; simp [hi] at hq)
              have h11 : L 11 = false := by cases hh : L 11 with | false => rfl | true => (have hq := q11 hh; simp [hi] at hq)
              obtain rfl := p8 (by simp [he])
              have t7 : L 7 = true := by have z0 : L 8 = true := (by simp [he]); have z1 := q8 (by simp [z0]); simp [z1]
              rw [if_neg (by simp [h10]), if_neg (by simp [hi]), if_pos t7] at hS
              have hN := hS.2.new 9 [.string Z]
              refine wpOp_step rfl (fun K hK => ?_)
              go_simp
              exact hK _ _ ⟨_, _, _, _, _, _, _, _, _, _, _, _, rfl, (by first | exact p0 | exact fun _ => rfl), (by first | exact p1 | exact fun _ => rfl), (by first | exact p2 | exact fun _ => rfl), (by first | exact p3 | exact fun _ => rfl), (by first | exact p4 | exact fun _ => rfl), (by first | exact p5 | exact fun _ => rfl), (by first | exact p6 | exact fun _ => rfl), (by first | exact p8 | exact fun _ => rfl), (by simp [h11]), (by simpa using q2), (by simpa using q3), (by simpa using q4), (by simpa using q6), (by simpa using q7), (by simpa using q8), (by simp [he]), (by simp [h10]), (by simp [h11]), (by first | exact fun _ => rfl | exact n11), (by rw [if_neg (by simp [h10]), if_pos (by simp)]; exact ⟨_, rfl, hN⟩)⟩
            · have h11 : L 11 = false := by cases hh : L 11 with | false => rfl | true => (have hq := q11 hh; simp [hi] at hq)
              obtain rfl := p0 (by simp [he])
              have t7 : L 7 = true := by simp [he]
              have t9 : L 9 = true := by simp [he]
              rw [if_neg (by simp [hi]), if_pos t9] at hS
              obtain ⟨gv, rfl, hS⟩ := hS
              have hv0 : Rd w' w'.heap.size 1 (some ⟨gv, 0, none⟩) 1 [.string Z] := ⟨rfl, fun _ => ⟨gv, 0, rfl, (hS.blk 3 rfl).lt, fun j u hu => by rw [Nat.zero_add]; exact hS.cell 3 rfl hu⟩⟩
              refine wpOp_at rfl rfl ?_
              refine oper_append_sep hS 1 (.tmp 70) (.tmp 79) 33 rfl 9 ti (.string ⟨#[]⟩) 1 16 Tryz.underlying33 HTI.out.1 HTI.out.2.1 HTI.out.2.2.1 HTI.out.2.2.2 rfl (by omega) _ p _ rfl rfl _ _ 1 1 _ rfl hv0 (by simp [Value.oneCell']) (by simp only [maxLen]; omega) (by omega) ?_
              intro A' c' w5 hc' _ K5
              exact ⟨_, _, _, _, _, _, _, _, _, _, _, _, rfl, (by first | exact p0 | exact fun _ => rfl), (by first | exact p1 | exact fun _ => rfl), (by first | exact p2 | exact fun _ => rfl), (by first | exact p3 | exact fun _ => rfl), (by first | exact p4 | exact fun _ => rfl), (by first | exact p5 | exact fun _ => rfl), (by first | exact p6 | exact fun _ => rfl), (by first | exact p8 | exact fun _ => rfl), (by simp [h11]), (by simpa using q2), (by simpa using q3), (by simpa using q4), (by simpa using q6), (by simpa using q7), (by simpa using q8), (by simpa using q9), (by simp [he]), (by simp [h11]), (by first | exact fun _ => rfl | exact n11), (by rw [if_pos (by simp)]; exact ⟨A', c', rfl, hc', K5.pick [0, 1] (by decide) (by simp)⟩)⟩
            · refine wpOp_step rfl (fun K hK => ?_)
              go_simp
              exact hK _ _ ⟨_, _, _, _, _, _, _, _, _, _, _, _, rfl, (by first | exact p0 | exact fun _ => rfl), (by first | exact p1 | exact fun _ => rfl), (by first | exact p2 | exact fun _ => rfl), (by first | exact p3 | exact fun _ => rfl), (by first | exact p4 | exact fun _ => rfl), (by first | exact p5 | exact fun _ => rfl), (by first | exact p6 | exact fun _ => rfl), (by first | exact p8 | exact fun _ => rfl), (fun _ => rfl), (by simpa using q2), (by simpa using q3), (by simpa using q4), (by simpa using q6), (by simpa using q7), (by simpa using q8), (by simpa using q9), (by simpa using q10), (by simp [he]), (by simp), (by simpa using hS)⟩
          · rintro L ac w' ⟨x9, x70, x71, x72, x73, x74, x75, x76, x77, x78, x79, x80, ha, p0, p1, p2, p3, p4, p5, p6, p8, p11, q2, q3, q4, q6, q7, q8, q9, q10, q11, n11, hS⟩ hall
            have t7 := hall 7 (by decide)
            have t9 := hall 9 (by decide)
            have t10 := hall 10 (by decide)
            rw [if_pos t10] at hS
            obtain ⟨A', c', rfl, hc', hS⟩ := hS
            obtain rfl := p0 (hall 0 (by decide))
            obtain rfl := p1 (hall 1 (by decide))
            obtain rfl := p2 (hall 2 (by decide))
            obtain rfl := p3 (hall 3 (by decide))
            obtain rfl := p4 (hall 4 (by decide))
            obtain rfl := p5 (hall 5 (by decide))
            obtain rfl := p6 (hall 6 (by decide))
            obtain rfl := p8 (hall 8 (by decide))
            obtain rfl := p11 (hall 11 (by decide))
            simp only [turn, List.foldl_cons, List.foldl_nil, List.setIfInBounds_toArray, List.set_cons_succ, List.set_cons_zero] at ha
            subst ha
            clear q2 q3 q4 q6 q7 q8 q9 q10 q11 n11 t7 t9 t10
            have HS9 := Lib.hid hS
            clear hS
            go_wp2
            go_roundg (m - (j + 1))
            case measure => omega
            case rel => exact ⟨j + 1, p + 1, A', c', by omega, rfl, by go_num, Lib.hid (by have := HP.out; omega), rfl, by rw [HXN.out]; exact HS9.out⟩
        · obtain rfl : j = m := by omega
          have HTK : Hid (ks.take j = ks) := Lib.hid (by rw [← HLK.out]; exact List.take_length)
          have hfin := HS0.out.pick [1] (by decide) (by simp)
          rw [HTK.out] at hfin
          have HFIN := Lib.hid hfin
          have hpc : p ≤ c9 := by
            obtain ⟨A', c', e, h⟩ := (HS0.out.rowHas 1 rfl).slice
            cases e
            exact h
          clear hfin HS0
          go_wp2
          refine bodyPost_ret (v := .tuple #[.slice A9 p c9, .int .i64 0]) (by simp [results, Tryz.results9]) rfl ?_
          refine ⟨ks, A9, p, c9, HK, Lib.hid ?_, hpc, hpb, rfl, ?_⟩
          · unfold tells
            rw [HZ0.out, List.length_append, List.length_map, HZL.out, HLK.out, HP.out]
          · unfold tells
            rw [HZ0.out]
            exact HFIN.out
end So
end Go.Proofs.YtgfldhdmdeeknaaGreatDoor
/-! Walk of alive: what a closed script tells. Conditions: none beyond each theorem's own premises. -/
namespace Go.Proofs.YtgfldhdmdeeknaaGreatDoor
open Go.RowKit Go.Shelf Go.Sort
set_option linter.unusedVariables false
namespace So
open _root_.Go.Proofs.YtgfldhdmdeeknaaGreatDoor.Bn _root_.Go.Proofs.YtgfldhdmdeeknaaGreatDoor.Dr

set_option maxHeartbeats 1600000 in
theorem equal_tc (A A' : Option Addr) (n c c' : Nat) (l : List By) (w : World) (hr : Rd w w.heap.size 1 A n (l.flatMap tc)) (hr' : Rd w w.heap.size 1 A' n (l.flatMap tc)) (hl : l.length = n) (hn : n ≤ 9223372036854775807) :
    Calls Tryz.prog 10 #[.slice A n c, .slice A' n c'] w (Ret w (.bool true)) := by
  have HR := Lib.hid hr
  have HR' := Lib.hid hr'
  have HL := Lib.hid hl
  clear hr hr' hl
  go_enter Tryz.func10, Tryz.ntmps10
  go_wp2
  go_loopg [13] n (fun g i wr => ∃ k : Nat, k ≤ n ∧ g = n - k ∧ i = .int .i64 k ∧ Below w.heap.size w wr)
  case atStart => exact ⟨0, Nat.zero_le _, rfl, rfl, Below.refl _ _⟩
  case round =>
    obtain ⟨k, hk, rfl, rfl, hB⟩ := hrel
    by_cases hlt : k < n
    · obtain ⟨b, off, rfl, hb, hc⟩ := HR.out.at_ tc_len (by omega)
      obtain ⟨b', off', rfl, hb', hc'⟩ := HR'.out.at_ tc_len (by omega)
      obtain ⟨y, hy⟩ : ∃ y, l[k]? = some y := ⟨_, List.getElem?_eq_getElem (by rw [HL.out]; exact hlt)⟩
      have d1 : wr.cell? ⟨b, off + k, none⟩ = some (.string (bs y)) := (hB.cell (p := ⟨b, off + k, none⟩) hb).trans (by simpa using hc k 0 y _ hy rfl)
      have d2 : wr.cell? ⟨b', off' + k, none⟩ = some (.string (bs y)) := (hB.cell (p := ⟨b', off' + k, none⟩) hb').trans (by simpa using hc' k 0 y _ hy rfl)
      have E : ((bs y).toList == (bs y).toList) = true := by simp
      have i0 : (0 : Int) ≤ (k : Int) := by omega
      have i1 : (k : Int) < (n : Int) := by omega
      clear hc hc' hy
      go_wp2
      go_quiet (fail)
      go_wp2
      generalize hxw : World.drewN wr _ = xw
      have xh : Below wr.heap.size wr xw := by rw [← hxw]; exact below_drewN (Below.refl _ _) _
      clear hxw
      go_roundg (n - (k + 1))
      case measure => omega
      case rel => exact ⟨k + 1, by omega, rfl, by go_num, hB.trans (xh.mono hB.size)⟩
    · go_wp2
      go_ret
      exact Ret.mk rfl hB


def aTxt : By := [119, 114, 105, 116, 101, 32, 97, 32, 54, 49, 10, 115, 121, 110, 99, 10, 119, 114, 105, 116, 101, 32, 97, 32, 54, 50, 10, 99, 114, 97, 115, 104, 32, 48, 10, 114, 101, 97, 100, 32, 97, 10]
abbrev zA : ByteArray := ⟨#[97]⟩
abbrev zB : ByteArray := ⟨#[98]⟩
def aOps : List Op := [⟨1, zA, zA, 0⟩, ⟨4, e0, e0, 0⟩, ⟨1, zA, zB, 0⟩, ⟨5, e0, e0, 0⟩, ⟨3, zA, e0, 0⟩]
def aAns : List An := [⟨0, ⟨#[]⟩⟩, ⟨0, ⟨#[]⟩⟩, ⟨0, ⟨#[]⟩⟩, ⟨0, ⟨#[]⟩⟩, ⟨0, zA⟩]
def aFs : Fs := mup mno zA zA
theorem a_pr : PR aTxt [] (some aOps) 0 := by
  have it0 : Lib.itoa 0 = [48] := by rw [itoa_nat 0 (by omega)]; exact dec_small (by decide)
  refine PR.line (l := [119, 114, 105, 116, 101, 32, 97, 32, 54, 49]) (o := ⟨1, zA, zA, 0⟩) (by decide) ⟨.write _ _, by decide, by decide⟩ ?_
  refine PR.line (l := [115, 121, 110, 99]) (o := ⟨4, e0, e0, 0⟩) (by decide) ⟨.sync, by decide, by decide⟩ ?_
  refine PR.line (l := [119, 114, 105, 116, 101, 32, 97, 32, 54, 50]) (o := ⟨1, zA, zB, 0⟩) (by decide) ⟨.write _ _, by decide, by decide⟩ ?_
  refine PR.line (l := [99, 114, 97, 115, 104, 32, 48]) (o := ⟨5, e0, e0, 0⟩) (by decide) ⟨.crash 0, by decide, by show pC ++ 32 :: Lib.itoa 0 = _; rw [it0]; rfl⟩ ?_
  refine PR.line (l := [114, 101, 97, 100, 32, 97]) (o := ⟨3, zA, e0, 0⟩) (by decide) ⟨.read _, by decide, by decide⟩ ?_
  exact PR.done
theorem a_now (D : Fs) (b : ByteArray) : now D [⟨1, zA, b, 0⟩] = mup D zA b := rfl
theorem a_fs : aFs zA = some zA := mup_same _ _ _
theorem a_plays : Plays mno [] aOps aAns aFs [] := by
  refine .cons (.fresh rfl (by decide) (by decide) rfl 0 cnt_no (by decide)) ?_
  refine .cons (.sync rfl) ?_
  refine .cons (.over rfl (by decide) (by decide) zA a_fs) ?_
  refine .cons (.crash rfl 0 (by decide) (by decide)) ?_
  refine .cons (.read rfl zA a_fs) ?_
  exact .nil
theorem a_kept : KeptIs aFs [⟨zA, zA⟩] := by
  refine ⟨List.pairwise_singleton _ _, fun x => ?_⟩
  rw [List.mem_singleton]
  unfold aFs
  constructor
  · rintro rfl
    exact mup_same _ _ _
  · intro h
    by_cases e : x.nm = zA
    · rw [e, mup_same] at h
      injection h with h
      obtain ⟨n, d⟩ := x
      simp only at e h
      rw [e, ← h]
    · rw [mup_other _ _ e] at h
      simp [mno] at h
def aLines : List By := [[111, 107], [111, 107], [111, 107], [111, 107], [111, 107, 32, 54, 49], [107, 101, 112, 116, 32, 97, 32, 54, 49]]
theorem a_tells : tells aOps aAns [⟨zA, zA⟩] = aLines := by decide

set_option maxRecDepth 100000 in
set_option maxHeartbeats 1600000 in
theorem alive_any (w : World) (hg : Gl w) : Calls Tryz.prog 4 #[] w (Ret w (.bool true)) := by
  have cP := Lib.hid (tell_ok aTxt (bs aTxt) rfl (by decide) aOps 0 a_pr aAns aFs [] a_plays w hg)
  clear hg
  have e : bs aTxt = ⟨#[119, 114, 105, 116, 101, 32, 97, 32, 54, 49, 10, 115, 121, 110, 99, 10, 119, 114, 105, 116, 101, 32, 97, 32, 54, 50, 10, 99, 114, 97, 115, 104, 32, 48, 10, 114, 101, 97, 100, 32, 97, 10]⟩ := rfl
  rw [e] at cP
  clear e
  go_enter Tryz.func4, Tryz.ntmps4
  go_wp2_with fail
  refine cP.out.mono ?_; rintro en w1 ⟨ks, A, p, c, HK, HP, hpc, hpb, rfl, hs1⟩
  obtain rfl : ks = [⟨zA, zA⟩] := kept_one HK.out a_kept
  rw [a_tells] at HP hs1
  obtain rfl : p = 6 := HP.out.symm
  have HR : Hid (∀ W, Below w1.heap.size w1 W → Rd W W.heap.size 1 A 6 (aLines.flatMap tc)) := Lib.hid (fun W hW => (hs1.rd 0 rfl).later hW)
  have B1 := Lib.hid hs1.below
  clear hs1 cP HK HP
  have cE := Lib.hid (fun W h c' c2 A' (h2 : Rd W W.heap.size 1 A' 6 (aLines.flatMap tc)) => equal_tc A A' 6 c' c2 aLines W (HR.out W h) h2 rfl (by omega))
  have hnew := Lib.hid (Rd.of_own (own_new w1 9 (aLines.flatMap tc).toArray 1 6 rfl (by simp [maxLen]) (Nat.le_refl _)))
  have hB := Lib.hid ((Below.refl w1.heap.size w1).alloc (Nat.le_refl _) (.cells (aLines.flatMap tc).toArray 9))
  go_wp2_with fail
  refine (cE.out _ hB.out c 6 _ hnew.out).mono ?_; rintro en w5 ⟨rfl, hb5⟩
  have HF := Lib.hid (B1.out.trans ((hB.out.trans (hb5.mono hB.out.size)).mono B1.out.size))
  clear hb5 cE hB hnew HR
  go_wp2
  go_ret
  exact Ret.mk rfl HF.out
end So
end Go.Proofs.YtgfldhdmdeeknaaGreatDoor
