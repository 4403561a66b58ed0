/-
  Bytes as a list of numbers, and string(..) of them.
-/
import Derived.Test.YtgfldhdmdeeknaaGreatDoorBase
import Derived.Lib.BufferRead
import Derived.Lib.SliceRun
namespace Go.Proofs.YtgfldhdmdeeknaaGreatDoor
open Go.RowKit

def bcell (c : Nat) : List Value := [.int .u8 (c : Int)]
theorem bcell_len : ∀ c : Nat, (bcell c).length = 1 := fun _ => rfl
theorem bcell_one (l : List Nat) : ∀ u ∈ l.flatMap bcell, u.oneCell' = true := by
  intro u hu
  obtain ⟨c, _, hc⟩ := List.mem_flatMap.1 hu
  simp [bcell] at hc
  subst hc
  rfl
theorem bcell_flat_len (l : List Nat) : (l.flatMap bcell).length = l.length := by have := flat_len bcell_len l; omega
theorem bcell_at (l : List Nat) (j : Nat) : (l.flatMap bcell)[j]? = l[j]?.map (fun c => Value.int .u8 (c : Int)) := by
  induction l generalizing j with
  | nil => simp
  | cons c l ih =>
    cases j with
    | zero => simp [bcell]
    | succ j =>
      have : (List.flatMap bcell (c :: l)) = Value.int .u8 (c : Int) :: l.flatMap bcell := rfl
      rw [this, List.getElem?_cons_succ, List.getElem?_cons_succ]
      exact ih j

/-- the string of these bytes -/
def strOf (l : List Nat) : ByteArray := ⟨(l.map UInt8.ofNat).toArray⟩
theorem strOf_toList (l : List Nat) : (strOf l).toList = l.map UInt8.ofNat := by rw [ByteArray.toList_eq]; simp [strOf]
theorem map_inj : ∀ (a b : List Nat), (∀ x ∈ a, x < 256) → (∀ x ∈ b, x < 256) → a.map UInt8.ofNat = b.map UInt8.ofNat → a = b
  | [], [], _, _, _ => rfl
  | [], _ :: _, _, _, h => by simp at h
  | _ :: _, [], _, _, h => by simp at h
  | x :: a, y :: b, ha, hb, h => by
    simp only [List.map_cons, List.cons.injEq] at h
    have hx := ha x (by simp)
    have hy := hb y (by simp)
    have hxy : x = y := by
      have := congrArg UInt8.toNat h.1
      simp at this
      omega
    rw [hxy, map_inj a b (fun z hz => ha z (by simp [hz])) (fun z hz => hb z (by simp [hz])) h.2]
theorem strOf_beq {a b : List Nat} (ha : ∀ x ∈ a, x < 256) (hb : ∀ x ∈ b, x < 256) : ((strOf a).toList == (strOf b).toList) = decide (a = b) := by
  rw [strOf_toList, strOf_toList, Bool.eq_iff_iff, beq_iff_eq, decide_eq_true_eq]
  exact ⟨map_inj a b ha hb, fun h => by rw [h]⟩

theorem run_str_rd {P : Program} {w : World} {B n c : Nat} {A : Option Addr} {l : List Nat} (src dst e : TypeId) (hs : P.underlying src = some (.slice e)) (he : P.underlying e = some (.int .u8)) (hd : P.underlying dst = some .string)
    (hr : Rd w B 1 A n (l.flatMap bcell)) (hb : ∀ x ∈ l, x < 256) : (convert src dst (.slice A n c)).run P w = .ok (.string (strOf l)) w := by
  have hln : l.length = n := by have := hr.1; rw [bcell_flat_len] at this; omega
  cases A with
  | none =>
    have hn : n = 0 := by
      rcases Nat.eq_zero_or_pos n with h0 | h0
      · exact h0
      · obtain ⟨_, _, h, _⟩ := hr.2 h0
        cases h
    subst hn
    obtain rfl := List.eq_nil_of_length_eq_zero hln
    exact Lib.run_convert_nil_bytes w src dst e c hs he hd
  | some ad =>
    have hm : (l.map UInt8.ofNat).length = n := by simpa using hln
    have := run_convert_bytes_back (P := P) w src dst e ad c (l.map UInt8.ofNat) hs he hd (fun j hj => by
      have hjl : j < l.length := by simpa using hj
      obtain ⟨b, off, h, _, hc⟩ := hr.2 (by omega)
      injection h with h
      subst h
      have hx : l[j] < 256 := hb _ (List.getElem_mem hjl)
      have := hc j (.int .u8 (l[j] : Int)) (by rw [bcell_at, List.getElem?_eq_getElem hjl]; rfl)
      rw [show (⟨b, off, none⟩ : Addr).add j = ⟨b, off + j, none⟩ by unfold Addr.add; by_cases h0 : j = 0 <;> simp [h0], this]
      simp only [List.getElem_map]
      congr 2
      simp
      omega)
    rw [hm] at this
    exact this

theorem Rd.of_own' {w : World} {base E C n : Nat} {A : Option Addr} {c : Nat} {xs : List Value} (h : w.ownsRow base E C (.slice A n c) n xs) : Rd w w.heap.size C A n xs := Rd.of_own h

theorem run_str_own {P : Program} {w : World} {base n : Nat} {v : Value} {l : List Nat} (src dst e : TypeId) (hs : P.underlying src = some (.slice e)) (he : P.underlying e = some (.int .u8)) (hd : P.underlying dst = some .string)
    (hr : w.ownsRow base e 1 v n (l.flatMap bcell)) (hb : ∀ x ∈ l, x < 256) : (convert src dst v).run P w = .ok (.string (strOf l)) w := by
  obtain ⟨A, c, rfl⟩ := own_slice hr
  exact run_str_rd src dst e hs he hd (Rd.of_own hr) hb

theorem byte_info : (Tryz.prog.info? 5).map (fun i => (i.zero, i.size, i.bytes)) = some (some (.int .u8 0), 1, 1) := by kernel_rfl
end Go.Proofs.YtgfldhdmdeeknaaGreatDoor
