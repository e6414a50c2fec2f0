/-
  The law RedoMergesRecords, where what it reads is of bulk at most 1048576: it returns true; each argument reads behind the call as it read before. The two tables of math/bits are tied to the program's text by the card.
-/
import Derived.Test.YtlolaieolgmdnaaDoorOpn

import Derived.Test.YtlolaieolgmdnaaDoorOpg

import Derived.Test.YtlolaieolgmdnaaDoorVE

import Derived.Test.YtlolaieolgmdnaaDoorTie

import Derived.Test.YtlolaieolgmdnaaDoorCards

import Derived.SevenTiedAt

namespace Go.Proofs.YtlolaieolgmdnaaDoor.redoMergesRecords

open Go.ChangeShapes Go.WideShapes Go.ChangeAt Go.RowKit
set_option linter.unusedVariables false

def RecQ (w : World) (r : Rec × Value) : Prop := slAt w r.2 r.1.2.length ((r.1.2.map enC).flatten) ∧ ∀ x ∈ r.1.2, i64 x.1

set_option maxRecDepth 100000 in
theorem rec_open {H : Type} {enc : TypeId × Value → H} {w : World} {base : Nat} {sp : Nat → Bool} {held : Bool} (r : List Value) (x : DataW H) (hr : r.length = 2) (h : RdsD enc Tryd.prog w base sp held 44 r x) :
    ∃ y : Rec × Value, recC y = r ∧ RecQ w y ∧ y.1.2.length + 1 ≤ Rows.uptoBulk x := by
  obtain ⟨-, ds, rfl, hl, hf⟩ := h.struct Tryd.underlying44
  obtain ⟨x0, g0, r0⟩ := hf 0 _ rfl
  obtain ⟨x1, g1, r1⟩ := hf 1 _ rfl
  match r, hr with
  | [a, b], _ =>
    have c0 : Tryd.prog.cellsOf 3 = 1 := by kernel_rfl
    have c1 : Tryd.prog.cellsOf 24 = 1 := by kernel_rfl
    have q0 : RdsD enc Tryd.prog w base sp held 3 [a] x0 := by
      have h : RdsD enc Tryd.prog w base sp held 3 (([a, b].drop 0).take (Tryd.prog.cellsOf 3)) x0 := r0
      rw [c0] at h
      exact h
    have q1 : RdsD enc Tryd.prog w base sp held 24 [b] x1 := by
      have h : RdsD enc Tryd.prog w base sp held 24 (([a, b].drop 1).take (Tryd.prog.cellsOf 24)) x1 := r1
      rw [c1] at h
      exact h
    obtain ⟨k, e0, -⟩ := q0.rds.int Tryd.underlying3
    obtain ⟨l, a1, cap, e1, -, i1, s1, b1⟩ := q1.intsT (encL := enL) (encC := enC) enC_L (d := 6) (n := 2) en_of Tryd.underlying24 (by kernel_rfl) (by kernel_rfl) (by decide)
    cases e0
    cases e1
    refine ⟨((k, l), .slice a1 l.length cap), rfl, ⟨s1, fun x hx => i1 x hx _ (by simp [enL])⟩, ?_⟩
    have h3 := bulk_part g1
    simp only [Rows.uptoBulk]
    show l.length + 1 ≤ _
    omega

theorem allE_sum : ∀ rs : List (Rec × Value), (allE (rs.map (·.1))).length ≤ (rs.map fun r => r.1.2.length + 1).sum ∧ rs.length ≤ (rs.map fun r => r.1.2.length + 1).sum
  | [] => ⟨by simp [allE], by simp⟩
  | r :: rs => by
    obtain ⟨h1, h2⟩ := allE_sum rs
    have e : allE ((r :: rs).map (·.1)) = r.1.2 ++ allE (rs.map (·.1)) := rfl
    rw [e, List.length_append, List.map_cons, List.sum_cons, List.length_cons]
    exact ⟨by omega, by omega⟩

theorem reads (os : Os) {H : Type} (enc : TypeId × Value → H) : ∃ places, DataW.whole enc Tryd.prog ((World.doorLaid Tryd.prog 400 os).forCall (fun _ _ => 0) ⟨#[], #[.slice none 0 0, .slice none 0 0], []⟩).memory Tryd.f4.params.toList Rows.redoMergesRecordsSpec.vars false #[Value.slice none 0 0, .slice none 0 0].toList 8 = some ([.nil, .nil], [], places) :=
  ⟨[], by kernel_rfl⟩

set_option maxRecDepth 100000 in
theorem lifted (os : Os) (started : os.Started) (H : Type) (enc : TypeId × Value → H) (F : Stop.Interp) :
    ReturnsInHanded {} Tryd.checked os 4 .any ((Rows.OpenSpec.upto Rows.redoMergesRecordsSpec).preRow enc Tryd.prog Tryd.f4 Rows.redoMergesRecordsUptoRow.domain false Rows.redoMergesRecordsUptoRow.laid) (((Rows.OpenSpec.upto Rows.redoMergesRecordsSpec).at F).post enc Tryd.prog Tryd.f4 false true false false) := by
  obtain ⟨places, hx⟩ := reads os enc
  refine returnsInHanded_of_row (C := Tryd.checked) (s := Rows.OpenSpec.upto Rows.redoMergesRecordsSpec) own started (by kernel_rfl) Tryd.func4
    (witness_rowS (enc := enc) (C := Tryd.checked) false (World.doorLaid Tryd.prog 400 os) #[.slice none 0 0, .slice none 0 0] rfl (World.shaped_of_RefB (by kernel_rfl) (by kernel_rfl)) (by kernel_rfl)
      (OpenSpec.preRow_of_cond 8 hx (by kernel_rfl) (fun k hk => by cases hk; kernel_rfl) (by kernel_rfl) (door_met os _))) ?_
  intro W base args ds gs before hval0 hW _ hcond _ hL _ _
  have hval : ∀ (j : Nat) t v, Tryd.f4.params[j]? = some t → args[j]? = some v → Value.okWide Tryd.prog W .any base t v := hval0
  have hb0 := hcond _ rfl
  have hW' := hW
  obtain ⟨p, q, hA0, hV, rfl, hfz, hnd⟩ := hW
  have hA : DataW.TrodAll enc Tryd.prog W 0 (fun _ => true) true Tryd.f4.params.toList args.toList ds p := hA0
  rw [Tryd.params4] at hA hval
  obtain ⟨v0, vs0, d0, ds0, p0, q0, hargs, rfl, rfl, h0, r0⟩ := trodAll_cons hA
  obtain ⟨v1, vs1, d1, ds1, p1, q1, rfl, rfl, rfl, h1, r1⟩ := trodAll_cons r0
  obtain ⟨rfl, rfl, rfl⟩ := trodAll_nil r1
  obtain rfl : args = #[v0, v1] := by cases args; simp_all
  obtain ⟨rfl, rfl⟩ := trodVars_none hV
  have hb : Rows.uptoBulkAll ([d0, d1] ++ ([] : List (DataW H))) ≤ 1048576 := of_decide_eq_true hb0
  simp only [List.append_nil, Rows.uptoBulkAll] at hb
  have k0 := h0
  have lt0 : ∀ x ∈ p0, x.block < W.heap.size := by obtain ⟨m, hm⟩ := k0; exact DataW.trod_lt m _ _ _ hm
  obtain ⟨l0, a0, c0, e0, n0, g0, s0⟩ := open_argT (enc' := imgL) (encC := imgC) imgC_L (e := 53) (d := 6) (n := 9) img_of Tryd.underlying23 (by kernel_rfl) (by kernel_rfl) (by decide) (hval 0 23 v0 rfl rfl) h0
  have k1 := h1
  have lt1 : ∀ x ∈ p1, x.block < W.heap.size := by obtain ⟨m, hm⟩ := k1; exact DataW.trod_lt m _ _ _ hm
  obtain ⟨rs, a1, c1, e1, n1, g1, s1, b1⟩ := (RdsD.ofS Tryd.underlying41 (hval 1 41 v1 rfl rfl) h1).sliceT (encC := recC) (Q := RecQ W) (fun r : Rec × Value => r.1.2.length + 1) Tryd.underlying41 (by kernel_rfl) (by decide : 0 < 2) rec_open
  injection e1 with e1 _
  subst e1
  obtain ⟨t1, t2⟩ := allE_sum rs
  clear hA0 hval0
  refine (retB_of (merges_sp n0 (slR_of (e0 ▸ s0)) (slR_of s1) (by omega) (by omega) (fun r hr => slR_of (g1 r hr).1) (fun x hx => by
    unfold allE at hx
    obtain ⟨l, hl, hxl⟩ := List.mem_flatten.1 hx
    obtain ⟨r, hr, rfl⟩ := List.mem_map.1 hl
    obtain ⟨r', hr', rfl⟩ := List.mem_map.1 hr
    exact (g1 r' hr').2 x hxl) (tabC_of (of_laid hL)) (sat_cxOf W))).mono fun e W' ⟨he, bel⟩ => ?_
  subst he
  exact ⟨_, rfl, _, _, _, [], _, [], hW', trodAll_mk1 (shut_bool Tryd.underlying4 _), (trodAll_cons_mk (Below.trod laidOut (by kernel_rfl) (of_decide_eq_true (by kernel_rfl)) k0 bel lt0) (trodAll_cons_mk (Below.trod laidOut (by kernel_rfl) (of_decide_eq_true (by kernel_rfl)) k1 bel lt1) trodAll_mk0)), rfl, bel.frame _, fun h => by cases h⟩

theorem over : Rows.RedoMergesRecordsUptoSaid :=
  OpenClaim.holds_of_cond 4 Tryd.f4 rfl rfl rfl rfl rfl rfl rfl ⟨rfl, rfl, rfl, rfl, rfl⟩ rfl rfl rfl rfl rfl (by kernel_rfl) Tryd.func4 (by kernel_rfl)
    (of_decide_eq_true (by kernel_rfl)) (by unfold Func.isWrapper; first | (rw [if_pos (by decide +kernel)]; kernel_rfl) | (rw [if_neg (by decide +kernel)]; exact ⟨rfl, rfl⟩))
    (fun os started H enc _ F => by rw [OpenClaim.pre_eq_preRow]; exact lifted os started H enc F)

/-- The statement. -/
theorem proved : Rows.RedoMergesRecordsUptoCardSaid :=
  Claim7.holds_tied_plain_at .later [] _ _ _ _
    over (fun _ h => by cases h) (by kernel_rfl) (fun _ h => by cases h) redoMergesRecordsUpto_row_tie rfl ⟨rfl, rfl⟩ (by kernel_rfl) rfl
    (fun f fn hf hfn => by
      obtain rfl : f = 4 := Option.some.inj ((show Tryd.prog.funcNamed "alum/alumlaw10.RedoMergesRecords" = some 4 by kernel_rfl).symm.trans hf) |>.symm
      obtain rfl : fn = Tryd.f4 := (Option.some.inj (Tryd.func4.symm.trans hfn)).symm
      exact ⟨by kernel_rfl, fun j t ht => by
        rw [Tryd.params4] at ht
        have hm : t ∈ [23, 41] := by simpa using Array.mem_of_getElem? ht
        have hall : ([23, 41].all fun u => !Tryd.prog.wantsStandIn u) = true := by kernel_rfl
        exact (show Tryd.prog.wantsStandIn t = false by simpa using List.all_eq_true.1 hall t hm)⟩)
    (by kernel_rfl)
#print axioms proved
end Go.Proofs.YtlolaieolgmdnaaDoor.redoMergesRecords
