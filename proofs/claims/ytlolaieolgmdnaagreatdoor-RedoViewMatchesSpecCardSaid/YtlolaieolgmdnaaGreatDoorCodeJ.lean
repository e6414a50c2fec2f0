/-
  The iterator over the positions: its contract.
-/
import Derived.Test.YtlolaieolgmdnaaGreatDoorCodeI
namespace Go.Proofs.YtlolaieolgmdnaaGreatDoor
open Go.RowKit Go.Shelf
attribute [local go_sem] Oper.semAt_some

/-- Where the search for the next position begins. -/
def nx (i : Nat) : Nat := if i = 0 then 3 else posn (i - 1) + 1
theorem nx_posn : ∀ i : Fin 320, (nx i.val &&& (nx i.val - 1) ≠ 0 → posn i.val = nx i.val) ∧ (nx i.val &&& (nx i.val - 1) = 0 → posn i.val = nx i.val + 1) := by decide +kernel
theorem nx_three : ∀ i : Fin 320, 3 ≤ nx i.val := by decide +kernel
theorem nx_succ (i : Nat) : nx (i + 1) = posn i + 1 := by unfold nx; rw [if_neg (by omega), Nat.add_sub_cancel]

abbrev pEnc (i : Nat) : Array Value := #[.agg #[.int .i64 ((i : Int) / 40), .int .i64 ((i : Int) % 40)], .int .i64 ((posn i : Nat) : Int)]

set_option maxRecDepth 100000 in
set_option maxHeartbeats 1000000 in
theorem posns_stops (F : Fence) (n : Nat) (hf : F.fn 119) (hro : F.round = none) (hn : 1 ≤ n) (w : World) :
    SeqStopsK F n Tryz.prog 119 #[] pEnc (Below w.heap.size) (fun xs => xs = List.range 320) (fun pre => ∃ m, m < 320 ∧ pre = List.range (m + 1)) 320 w := fun l J Jx W hW hJ hJx hY h0 => by
  refine callsIn_of_wp Tryz.func119 rfl hf ?_ hro
  simp only [Tryz.ntmps119, List.size_toArray, List.length_cons, List.length_nil, Nat.reduceAdd, Nat.reduceSub, Array.replicate_succ, Array.replicate_zero, List.push_toArray, List.append_toArray, List.nil_append, List.cons_append]
  gi_wp2
  gi_loopw [2, 4] (fun m i wr => ∃ k : Nat, k ≤ 320 ∧ i = .int .i64 k ∧ m = .int .i64 (nx k : Nat) ∧ Hid (J (List.range k) wr)) (fun _ i _ => 320 - (intOf i).toNat)
  case atStart => exact ⟨0, by omega, rfl, rfl, h0⟩
  case round =>
    obtain ⟨k, hk, rfl, rfl, HJ⟩ := hrel
    by_cases hlt : k < 320
    · have hk320 : decide ((k : Int) < 320) = true := by simp; omega
      obtain ⟨fn, tmps, assign, body, hy, hR⟩ := hY (List.range k) k wr HJ.out (by simpa using hlt)
      dsimp only [pEnc] at hy
      have Hnp := Lib.hid (nx_posn ⟨k, hlt⟩)
      have Hno := Lib.hid (posn_nopow ⟨k, hlt⟩)
      have hpb := posn_bound ⟨k, hlt⟩
      simp only at hpb
      have hnx : nx k ≤ posn k := by
        by_cases h : nx k &&& (nx k - 1) = 0
        · have := Hnp.out.2 h; simp only at this; omega
        · have := Hnp.out.1 h; simp only at this; omega
      have hn3 : 3 ≤ nx k := nx_three ⟨k, hlt⟩
      have Hnx := Lib.hid (nx_succ k)
      gi_wp2
      gi_loop [2] (fun m => ∃ v : Nat, m = .int .i64 v ∧ nx k ≤ v ∧ v ≤ posn k ∧ Hid (v = nx k ∨ v = posn k)) (fun m => posn k - (intOf m).toNat)
      case atStart => exact ⟨nx k, rfl, Nat.le_refl _, hnx, .inl rfl⟩
      case round =>
        obtain ⟨v, rfl, hv1, hv2, Hv⟩ := hrel
        have hand := and_i64 v (v - 1) (by omega) (by omega)
        rw [show ((v - 1 : Nat) : Int) = (v : Int) - 1 from by omega] at hand
        by_cases hz : v &&& (v - 1) = 0
        · rw [hz] at hand
          have hlt2 : v + 1 = posn k := by
            rcases Hv.out with h | h
            · subst h; exact (Hnp.out.2 hz).symm
            · subst h; exact absurd hz Hno.out
          have Hlt2 := Lib.hid hlt2
          have hltv : v < posn k := by omega
          clear hlt2 hz
          gi_wp2
          go_round
          case rel => exact ⟨v + 1, by go_num, by omega, by omega, .inr Hlt2.out⟩
          case measure => simp [intOf]; omega
        · have hve : v = posn k := by
            rcases Hv.out with h | h
            · subst h; exact (Hnp.out.1 hz).symm
            · exact h
          subst hve
          have hzb : (((posn k &&& (posn k - 1) : Nat) : Int) == 0) = false := by rw [beq_eq_false_iff_ne]; omega
          generalize (posn k &&& (posn k - 1)) = z at *
          gi_wp2
          refine hR.mono ?_
          rintro e W3 (⟨rfl, hJ3, hk3⟩ | ⟨rfl, hJx3⟩)
          · have HJ3 := Lib.hid hJ3
            clear hJ3
            gi_wp2
            go_roundw
            case rel => exact ⟨k + 1, by omega, by go_num, by rw [Hnx.out]; go_num, by rw [List.range_succ]; exact HJ3⟩
            case measure => simp [intOf]; omega
          · gi_wp2
            refine bodyPost_ret (results_none rfl _ _ _) rfl ?_
            exact ⟨⟨_, rfl⟩, .inr ⟨List.range (k + 1), ⟨k, hlt, rfl⟩, by rw [List.range_succ]; exact hJx3⟩⟩
    · obtain rfl : k = 320 := by omega
      gi_wp2
      go_end0
      exact ⟨⟨_, rfl⟩, .inl ⟨_, rfl, HJ.out⟩⟩

end Go.Proofs.YtlolaieolgmdnaaGreatDoor
