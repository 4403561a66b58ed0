/-
  The library's contracts in this set's words: Split at ' ', Cut at a line's end, DecodeString, Atoi, ParseInt. Conditions: none beyond each theorem's own premises.
-/
import Derived.Test.YtgfldhdmdeeknaaGreatDoorBnB
import Derived.Test.YtgfldhdmdeeknaaGreatDoorBnG
import Derived.Test.YtgfldhdmdeeknaaGreatDoorShelfNc
namespace Go.Proofs.YtgfldhdmdeeknaaGreatDoor
open Go.RowKit Go.Shelf Go.Sort
set_option linter.unusedVariables false
namespace Bn

theorem split_any (x : By) (hl : x.length ≤ 67108865) (w : World) (hg : Gl w) : Calls Tryz.prog 29 #[.string (bs x), .string (bs [32])] w (fun e w' =>
    e = .returned (.slice (some ⟨w.heap.size, 0, none⟩) (spl 32 x).length (spl 32 x).length) ∧ w' = w.alloc (.cells ((spl 32 x).map fun y => Value.string (bs y)).toArray 9)) := by
  obtain ⟨m, hm⟩ := hg.mx
  have h := Any.strings_Split Tryz.splitN (by kernel_rfl) (bs x) (bs [32]) m w (by rw [bs_size]; omega) hm (by rw [bs_size]; decide)
  have hlen := Lib.splitB_all (bs [32]) (by rw [bs_size]; decide) 0 _ (bs x) rfl
  have hd := Lib.splitB_data (bs [32]) 0 (Lib.countB (bs x) (bs [32])) (bs x)
  have hs := split_spl 32 x.length x (Nat.le_refl _)
  have e : Lib.countB (bs x) (bs [32]) = Lib.count x [32] := by
    show Lib.count (bs x).data.toList (bs [32]).data.toList = _
    rw [bs_data, bs_data]
  rw [e] at h hlen hd
  rw [bs_data, bs_data, hs] at hd
  have hn : Lib.count x [32] + 1 = (spl 32 x).length := by rw [← hd, List.length_map, hlen]
  have hv : (Lib.splitB (bs [32]) 0 (Lib.count x [32]) (bs x)).map Value.string = (spl 32 x).map fun y => Value.string (bs y) := by
    rw [← hd, List.map_map]
    exact List.map_congr_left fun p _ => by simp [bs_of]
  rw [hn, hv] at h
  exact h

theorem cut_any (x : By) (hl : x.length ≤ 67108865) (w : World) (hg : Gl w) : Calls Tryz.prog 20 #[.string (bs x), .string (bs [10])] w
    (Ret w (.tuple #[.string (bs (Lib.cut x [10]).1), .string (bs (Lib.cut x [10]).2.1), .bool (Lib.cut x [10]).2.2])) := by
  obtain ⟨m, hm⟩ := hg.mx
  have h := Any.strings_Cut Tryz.cutN (bs x) (bs [10]) m w (by rw [bs_size]; omega) hm
  rw [bs_data, bs_data] at h
  exact h.mono fun e w' ⟨he, q, hw⟩ => ⟨he, by rw [hw]; exact below_drewN (Below.refl _ _) q⟩

theorem decode_any (x : By) (hl : x.length ≤ 67108865) (w : World) (hg : Gl w) : Calls Tryz.prog 30 #[.string (bs x)] w (fun e w' => ∃ (v ev : Value), e = .returned (.tuple #[v, ev]) ∧
    w'.ownsRow w.heap.size 5 1 v (Lib.Hx.decode x).1.length ((Lib.Hx.decode x).1.map fun b => Value.int .u8 (b.toNat : Int)) ∧ Below w.heap.size w w') := by
  obtain ⟨ev, hE⟩ := hg.len
  have h := Any.hex_DecodeString_owns Tryz.hexDec (bs x) w ev hE (by rw [bs_size]; omega)
  rw [bs_data] at h
  exact h.mono fun e w' ⟨v, he, hrow, hb⟩ => ⟨v, _, he, hrow, hb⟩

theorem atoi_any (x : By) (hl : x.length ≤ 67108865) (w : World) (hg : Gl w) : Calls Tryz.prog 31 #[.string (bs x)] w (fun e w' => ∃ (k : Int) (ev : Value), e = .returned (.tuple #[.int .i64 k, ev]) ∧ Below w.heap.size w w' ∧ -9223372036854775808 ≤ k ∧ k ≤ 9223372036854775807 ∧ ∀ v, Lib.atoiAll x = .ok v → k = v) := by
  have hs : (bs x).size ≤ 67108865 := by rw [bs_size]; exact hl
  have hbw : ∀ w', (w' = w ∨ ∃ t, w' = Lib.bytesWorld w 5 t) → Below w.heap.size w w' := fun w' h => by
    rcases h with rfl | ⟨t, rfl⟩
    · exact Below.refl _ _
    · exact Lib.bytesWorld_below _ _ _
  cases hx : Lib.atoiAll x
  · rename_i v
    have hb : -9223372036854775808 ≤ v ∧ v ≤ 9223372036854775807 := by
      unfold Lib.atoiAll at hx
      split at hx
      · cases hx
      · simp only at hx
        split at hx
        · cases hx
        · cases hx
        · split at hx
          · cases hx
          · next h1 =>
            split at hx
            · cases hx
            · next h2 =>
              injection hx with hx
              split at hx <;> omega
    have h := callsIn_wide.1 (AnyS.strconv_Atoi_ok_in Tryz.atoiN Fence.wide 30 rfl (fun _ _ => trivial) (fun _ => by omega) (bs x) (by omega) v (by rw [bs_data]; exact hx) w)
    exact h.mono fun e w' ⟨he, hw⟩ => ⟨v, _, he, hbw w' hw, hb.1, hb.2, fun u hu => by cases hu; rfl⟩
  · obtain ⟨tp, p, hv⟩ := hg.syn
    have h := callsIn_wide.1 (AnyS.strconv_Atoi_syntax_var_in Tryz.atoiN Fence.wide 30 rfl (fun _ _ => trivial) (fun _ => by omega) (bs x) (by omega) (by rw [bs_data]; exact hx) tp p w hv)
    exact h.mono fun e w' ⟨N, he, _, _, hb⟩ => ⟨0, _, he, hb, by omega, by omega, fun u hu => by cases hu⟩
  · obtain ⟨tp, p, hv⟩ := hg.rng
    have h := callsIn_wide.1 (AnyS.strconv_Atoi_range_var_in Tryz.atoiN Fence.wide 30 rfl (fun _ _ => trivial) (fun _ => by omega) (bs x) (by omega) (by rw [bs_data]; exact hx) tp p w hv)
    exact h.mono fun e w' ⟨N, he, _, _, hb⟩ => ⟨_, _, he, hb, by unfold Lib.atoiSat; split <;> omega, by unfold Lib.atoiSat; split <;> omega, fun u hu => by cases hu⟩

end Bn
end Go.Proofs.YtgfldhdmdeeknaaGreatDoor
