/-
  What the laws of layer 3 share.
-/
import Derived.Test.YtmhllnnchhcamaaDoorCodeR
import Derived.Test.YtmhllnnchhcamaaDoorPlainE
import Derived.Lib.QuietBelow
namespace Go.Proofs.YtmhllnnchhcamaaDoor
open Go.RowKit Go.Sort

theorem Made_l (l : W8) (w : World) : Calls Tryd.prog 24 #[(.agg #[.int .i64 l.a0, .int .i64 l.a1, .int .i64 l.a2, .int .i64 l.a3, .int .i64 l.a4, .int .i64 l.a5, .int .i64 l.a6, .int .i64 l.a7])] w (RetB (.agg #[.int .i64 (made l).a0, .int .i64 (made l).a1, .int .i64 (made l).a2, .int .i64 (made l).a3, .int .i64 (made l).a4, .int .i64 (made l).a5, .int .i64 (made l).a6, .int .i64 (made l).a7]) w) := Made_any l.a0 l.a1 l.a2 l.a3 l.a4 l.a5 l.a6 l.a7 w

theorem mask_ok (x : Int) : 0 ≤ mask x ∧ mask x ≤ 1099511627775 := by
  have h : ∃ n : Nat, mask x = n ∧ n ≤ 1099511627775 := by
    refine ⟨((BitVec.ofInt 64 x) &&& (BitVec.ofInt 64 1099511627775)).toNat, ?_, ?_⟩
    · show IntKind.i64.wrap (((BitVec.ofInt 64 x) &&& (BitVec.ofInt 64 1099511627775)).toNat : Int) = _
      have h1 : ((BitVec.ofInt 64 x) &&& (BitVec.ofInt 64 1099511627775)).toNat ≤ 1099511627775 := by
        rw [BitVec.toNat_and]
        exact Nat.le_trans Nat.and_le_right (by decide)
      exact wrap_i64_in _ (by omega) (by omega)
    · rw [BitVec.toNat_and]
      exact Nat.le_trans Nat.and_le_right (by decide)
  obtain ⟨n, h1, h2⟩ := h
  rw [h1]; omega

theorem made_valid (l : W8) : validB (made l) 0 = true := validB_yes (fun k hk => by rw [made_get l k hk]; exact mask_ok _) (by omega) (by omega)

/-- Which bit a number names. -/
theorem bit_I (o : Int) : ∃ i : Nat, i < 330 ∧ bitW o = wI i ∧ bitB o = bI i := by
  refine ⟨(o % 330).toNat, by omega, ?_, ?_⟩
  · unfold bitW wI; split <;> split <;> omega
  · unfold bitB bI; split <;> split <;> omega

end Go.Proofs.YtmhllnnchhcamaaDoor
