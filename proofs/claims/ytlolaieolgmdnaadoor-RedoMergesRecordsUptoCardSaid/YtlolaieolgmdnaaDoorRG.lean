/-
  The iterator slices.Backward over entries: its contract.
-/
import Derived.Test.YtlolaieolgmdnaaDoorRF

import Derived.Test.YtlolaieolgmdnaaDoorShT

import Derived.RangeFuncNested

import Derived.RangeFuncBound

import Derived.RangeFuncLeaves

import Derived.OwnWalkIn

import Derived.TacticsInMore

import Derived.LoopNIn

import Derived.LoopIn

namespace Go.Proofs.YtlolaieolgmdnaaDoor
set_option maxRecDepth 100000

open Go.RowKit
set_option linter.unusedVariables false
set_option linter.unusedSimpArgs false
attribute [local go_sem] Oper.semAt_some

/-- What the iterator hands to a round: the index, the entry. -/
abbrev bEnc (p : Nat × En) : Array Value := #[.int .i64 (p.1 : Int), .agg #[.int .i64 p.2.1, .int .i64 p.2.2]]
/-- The entries with their indexes, from behind. -/
def backL (E : List En) : List (Nat × En) := (E.zipIdx.map fun p => (p.2, p.1)).reverse

theorem backL_drop {E : List En} {k : Nat} {x : En} (hx : E[k]? = some x) : (((E.zipIdx.map fun p => (p.2, p.1)).drop k).reverse) = (((E.zipIdx.map fun p => (p.2, p.1)).drop (k + 1)).reverse) ++ [(k, x)] := by
  have h : (E.zipIdx.map fun p => (p.2, p.1))[k]? = some (k, x) := by simp [hx]
  obtain ⟨hlt, he⟩ := List.getElem?_eq_some_iff.1 h
  rw [List.drop_eq_getElem_cons hlt, List.reverse_cons, he]

theorem back_mem {E : List En} {j : Nat} {y : En} (h : E[j]? = some y) : (j, y) ∈ backL E := by
  unfold backL
  rw [List.mem_reverse, List.mem_map]
  exact ⟨(y, j), List.mem_zipIdx_iff_getElem?.2 h, rfl⟩

theorem back_hit {E : List En} {pre' : List (Nat × En)} {p : Nat × En} {k : Nat} {a : Int} (h : pre' ++ [p] = ((E.zipIdx.map fun p => (p.2, p.1)).drop k).reverse) (hq : ∀ q, q ∈ pre' → q.2.1 ≠ a) (hp : p.2.1 = a) : lastE E a = some p.2.2 := by
  have h1 : (E.zipIdx.map fun p => (p.2, p.1)).drop k = p :: pre'.reverse := by
    have := congrArg List.reverse h
    rw [List.reverse_reverse, List.reverse_append] at this
    simpa using this.symm
  have hget : ∀ j, (E.zipIdx.map fun p => (p.2, p.1))[k + j]? = (p :: pre'.reverse)[j]? := fun j => by rw [← h1, List.getElem?_drop]
  have hz : ∀ (j : Nat) (y : En), E[j]? = some y → (E.zipIdx.map fun p => (p.2, p.1))[j]? = some (j, y) := fun j y hy => by simp [hy]
  have h0 : E[k]? = some p.2 := by
    have := hget 0
    rw [Nat.add_zero, List.getElem?_cons_zero] at this
    rw [List.getElem?_map, List.getElem?_zipIdx] at this
    cases he : E[k]? with
    | none => rw [he] at this; simp at this
    | some y => rw [he] at this; simp at this; rw [← this]
  refine lastE_hit h0 hp fun j y hj hy => ?_
  obtain ⟨d, rfl⟩ : ∃ d, j = k + (d + 1) := ⟨j - k - 1, by omega⟩
  have h2 := hget (d + 1)
  rw [hz _ _ hy, List.getElem?_cons_succ] at h2
  exact hq _ (List.mem_reverse.1 (List.mem_of_getElem? h2.symm))

set_option maxRecDepth 100000 in
set_option maxHeartbeats 1000000 in
theorem back_stops (F : Fence) (n : Nat) (hf : F.fn 56) (hro : F.round = none) (hn : 1 ≤ n) (w : World) (B cap : Nat) (ad : Option Addr) (E : List En) (hE : E.length ≤ 1000000)
    (hB : B < w.heap.size) (hbox : w.cell? ⟨B, 0, none⟩ = some (.slice ad E.length cap)) (hs : slAt w (.slice ad E.length cap) E.length ((E.map enC).flatten)) :
    SeqStopsK F n Tryd.prog 56 #[.pointer (some ⟨B, 0, none⟩)] bEnc (Below w.heap.size) (fun xs => xs = backL E) (fun pre => ∃ k, pre = ((E.zipIdx.map fun p => (p.2, p.1)).drop k).reverse) E.length w := fun l J Jx W hW hJ hJx hY h0 => by
  refine callsIn_of_wp Tryd.func56 rfl hf ?_ hro
  have hbx := (hW.cell (p := ⟨B, 0, none⟩) hB).trans hbox
  simp only [Tryd.ntmps56, List.size_toArray, List.length_cons, List.length_nil, Nat.reduceAdd, Nat.reduceSub, Array.replicate_succ, Array.replicate_zero, List.push_toArray, List.append_toArray, List.nil_append, List.cons_append]
  gi_wp2
  gi_loopw [3] (fun i wr => ∃ k : Nat, k ≤ E.length ∧ i = .int .i64 ((k : Int) - 1) ∧ Below w.heap.size w wr ∧ Hid (J ((E.zipIdx.map fun p => (p.2, p.1)).drop k).reverse wr)) (fun i _ => (intOf i + 1).toNat)
  case atStart => exact ⟨E.length, Nat.le_refl _, rfl, hW, by rw [List.drop_of_length_le (by simp)]; exact h0⟩
  case round =>
    obtain ⟨k, hk, rfl, hwr, HJ⟩ := hrel
    have hB' := (hwr.cell (p := ⟨B, 0, none⟩) hB).trans hbox
    cases k with
    | zero =>
      have hg : decide ((0 : Int) ≤ ((0 : Nat) : Int) - 1) = false := by decide
      gi_wp2
      go_end0
      exact ⟨⟨_, rfl⟩, .inl ⟨_, rfl, by have := HJ.out; rw [List.drop_zero] at this; exact this⟩⟩
    | succ i =>
      have hlt : i < E.length := by omega
      have hg : decide ((0 : Int) ≤ (i : Int)) = true := by simp
      rw [show (((i + 1 : Nat) : Int) - 1) = (i : Int) by omega]
      obtain ⟨x, hx⟩ : ∃ x, E[i]? = some x := ⟨E[i]'hlt, List.getElem?_eq_getElem _⟩
      obtain ⟨b, o, cap', e, -, hxc⟩ := slAt.elem (enc := enC) enC_len hs hx
      cases e
      have hb : b < w.heap.size := by
        have h0 := hxc 0 _ rfl
        rcases Nat.lt_or_ge b w.heap.size with h | h
        · exact h
        · simp [World.cell?, Array.getElem?_eq_none h] at h0
      have l0 : wr.cell? ⟨b, o + i * 2, none⟩ = some (.int .i64 x.1) := (hwr.cell (p := ⟨b, o + i * 2, none⟩) hb).trans (hxc 0 _ rfl)
      have l1 : wr.cell? ⟨b, o + i * 2 + 1, none⟩ = some (.int .i64 x.2) := (hwr.cell (p := ⟨b, o + i * 2 + 1, none⟩) hb).trans (hxc 1 _ rfl)
      have Hd := Lib.hid (backL_drop hx)
      obtain ⟨fn, tmps, assign, body, hy, hR⟩ := hY _ (i, x) wr HJ.out (by simp; omega)
      dsimp only [bEnc] at hy
      clear hxc hx
      gi_wp2
      refine hR.mono ?_
      rintro e W3 (⟨rfl, hJ3, hk3⟩ | ⟨rfl, hJx3⟩)
      · have HJ3 := Lib.hid hJ3
        have hw3 := hwr.trans hk3
        clear hJ3 hk3
        gi_wp2
        go_roundw
        case rel => exact ⟨i, by omega, by go_num, hw3, by rw [Hd.out]; exact HJ3⟩
        case measure => simp [intOf] <;> omega
      · gi_wp2
        refine bodyPost_ret (results_none rfl _ _ _) rfl ?_
        exact ⟨⟨_, rfl⟩, .inr ⟨_, ⟨i, rfl⟩, by rw [Hd.out]; exact hJx3⟩⟩

theorem Sat.own1 {c : Cx} {Γ : List HProp} {w w' : World} {g : Nat} {o : Obj} (H : Sat c Γ w) (hb : Below w.heap.size w w') (hg : w'.heap[g]? = some o) (hn : w.heap.size ≤ g) : Sat c (obj g o :: Γ) w' := by
  have H' := H.below hb
  refine { H' with own := ?_ }
  have hng : c.ro g = none := by
    cases h : c.ro g with
    | none => rfl
    | some o =>
      have := H.ro g o h
      rw [Array.getElem?_eq_none (by omega)] at this; cases this
  refine ⟨fun k => if k = g then w'.heap[g]? else none, fun k => if k = g then none else restH c w' k, ?_, ?_, ?_⟩
  · intro k
    by_cases hk : k = g
    · subst hk; left; simp [restH, hng]
    · right; simp [hk]
  · show (if g = g then w'.heap[g]? else none) = _
    rw [if_pos rfl, hg]
  · refine stars_mono H.own fun k o hk => ?_
    unfold restH at hk
    split at hk
    · cases hk
    · rename_i hro
      have hlt : k < w.heap.size := by
        rcases Nat.lt_or_ge k w.heap.size with h | h
        · exact h
        · rw [Array.getElem?_eq_none h] at hk; cases hk
      have hne : k ≠ g := by omega
      show (if k = g then none else restH c w' k) = _
      rw [if_neg hne]
      unfold restH
      rw [if_neg hro, hb.block k hlt]; exact hk

theorem Sat.putObj {c : Cx} {Γ : List HProp} {w : World} {g : Nat} {o o' : Obj} (H : Sat c (obj g o :: Γ) w) : Sat c (obj g o' :: Γ) (w.putObj g o') := by
  have hg := H.block.1
  have hlt : g < w.heap.size := by
    rcases Nat.lt_or_ge g w.heap.size with h | h
    · exact h
    · rw [Array.getElem?_eq_none h] at hg; cases hg
  exact Sat.turn H rfl rfl rfl (World.putObj_heap_same hlt) (fun k hk => World.putObj_heap_other hk)

theorem Backward_any (u : Value) (w : World) (hu : u.oneCell' = true) : Calls Tryd.prog 40 #[u] w fun e w' => e = .returned (.func (.func 56) #[] #[.pointer (some ⟨w.heap.size, 0, none⟩)]) ∧ w' = w.alloc (.cells #[u] 24) := by
  have hu := Value.cells_one hu
  go_enter Tryd.func40, Tryd.ntmps40
  go_wp2
  go_ret
  exact ⟨rfl, rfl⟩

section

variable {c : Cx} {Γ : List HProp} {w : World} {m v : Nat} {M : MemS} {lv ev : Value} {ps : List Value} {mb ck : Nat} {es : Array MapEntry} {E : List En}

set_option maxRecDepth 100000 in
set_option maxHeartbeats 2000000 in
theorem VLoad_sp (at' : Int) (hat : i64 at') (hE : E.length ≤ 1000000) (hok : M.ok) (R : MemR c m M lv ps mb es ck ev) (hT : TabC c) (H : Sat c (VwH 70 v m E :: Γ) w) :
    Calls Tryd.prog 14 #[.pointer (some ⟨v, 0, none⟩), .int .i64 at'] w (Rt (Yes c (VwH 70 v m E :: Γ) (.tuple #[.int .i64 (loadV M E at').1, .int .i64 (loadV M E at').2]))) := by
  have hH := H
  obtain ⟨lv', H⟩ := H.openV
  have v0 := H.cell Has.n0 (j := 0) rfl
  have v1 := H.cell Has.n0 (j := 1) rfl
  have hs := H.slAt Has.n1
  obtain ⟨ad, cap, rfl, -⟩ := hs
  have hs := H.slAt Has.n1
  have hv : v < w.heap.size := by
    rcases Nat.lt_or_ge v w.heap.size with h | h
    · exact h
    · simp [World.cell?, Array.getElem?_eq_none h] at v0
  have h1 : Sat c (blk w.heap.size [.int .i64 at'] 3 :: VwH 70 v m E :: Γ) (w.alloc (.cells #[.int .i64 at'] 3)) := hH.new _
  have h2 : Sat c (blk (w.heap.size + 1) [.int .i64 0] 3 :: blk w.heap.size [.int .i64 at'] 3 :: VwH 70 v m E :: Γ) ((w.alloc (.cells #[.int .i64 at'] 3)).alloc (.cells #[.int .i64 0] 3)) := by
    have h := h1.new (.cells #[.int .i64 0] 3)
    rw [World.size_alloc] at h; exact h
  have H3 : Sat c (blk (w.heap.size + 1 + 1) [.int .i64 0] 27 :: blk (w.heap.size + 1) [.int .i64 0] 3 :: blk w.heap.size [.int .i64 at'] 3 :: VwH 70 v m E :: Γ)
      (((w.alloc (.cells #[.int .i64 at'] 3)).alloc (.cells #[.int .i64 0] 3)).alloc (.cells #[.int .i64 0] 27)) := by
    have h := h2.new (.cells #[.int .i64 0] 27)
    rw [World.size_alloc, World.size_alloc] at h; exact h
  have hb3 : Below w.heap.size w (((w.alloc (.cells #[.int .i64 at'] 3)).alloc (.cells #[.int .i64 0] 3)).alloc (.cells #[.int .i64 0] 27)) :=
    (((Below.refl _ w).alloc (Nat.le_refl _) _).alloc (by simp) _).alloc (by simp; omega) _
  have w1 : (((w.alloc (.cells #[.int .i64 at'] 3)).alloc (.cells #[.int .i64 0] 3)).alloc (.cells #[.int .i64 0] 27)).cell? ⟨v, 1, none⟩ = some (.slice ad E.length cap) := (hb3.cell (p := ⟨v, 1, none⟩) hv).trans v1
  refine (callsIn_wide (n := 5)).1 ?_
  refine callsIn_of_wp_marks Tryd.func14 rfl trivial ?_ rfl
  simp only [Tryd.ntmps14, List.size_toArray, List.length_cons, List.length_nil, Nat.reduceAdd, Nat.reduceSub, Array.replicate_succ, Array.replicate_zero, List.push_toArray, List.append_toArray, List.nil_append, List.cons_append]
  gi_wp2_with fail
  have hz3 : (((w.alloc (.cells #[.int .i64 at'] 3)).alloc (.cells #[.int .i64 0] 3)).alloc (.cells #[.int .i64 0] 27)).heap.size = w.heap.size + 1 + 1 + 1 := by simp
  generalize (((w.alloc (.cells #[.int .i64 at'] 3)).alloc (.cells #[.int .i64 0] 3)).alloc (.cells #[.int .i64 0] 27)) = w3 at *
  refine ⟨trivial, (callsIn_wide.2 (Backward_any _ _ rfl)).mono ?_⟩
  rintro e w' ⟨rfl, rfl⟩
  gi_wp2_with fail
  have H0 : Sat c (blk (w.heap.size + 1 + 1 + 1) [.slice ad E.length cap] 24 :: blk (w.heap.size + 1 + 1) [.int .i64 0] 27 :: blk (w.heap.size + 1) [.int .i64 0] 3 :: blk w.heap.size [.int .i64 at'] 3 :: VwH 70 v m E :: Γ) (w3.alloc (.cells #[.slice ad E.length cap] 24)) := by
    have h := H3.new (.cells #[.slice ad E.length cap] 24)
    rw [hz3] at h; exact h
  have hb0 : Below w.heap.size w (w3.alloc (.cells #[.slice ad E.length cap] 24)) := hb3.alloc (by omega) _
  have hz0 : (w3.alloc (.cells #[.slice ad E.length cap] 24)).heap.size = w.heap.size + 1 + 1 + 1 + 1 := by rw [World.size_alloc, hz3]
  generalize (w3.alloc (.cells #[.slice ad E.length cap] 24)) = W0 at *
  have hs0 : slAt W0 (.slice ad E.length cap) E.length ((E.map enC).flatten) := by
    obtain ⟨ad', cap', e, hle, hn, hcc⟩ := hs
    cases e
    refine ⟨ad, cap, rfl, hle, hn, fun b o sp e => ?_⟩
    rcases hcc b o sp e with h | ⟨rfl, h⟩
    · exact .inl h
    · refine .inr ⟨rfl, fun j u hj => ?_⟩
      have h5 := h j u hj
      have hb : b < w.heap.size := by
        rcases Nat.lt_or_ge b w.heap.size with h | h
        · exact h
        · simp [World.cell?, Array.getElem?_eq_none h] at h5
      exact (hb0.cell (p := ⟨b, o + j, none⟩) hb).trans h5
  have b4 := H0.blkAt Has.n2
  have b5 := H0.blkAt Has.n1
  have b3 := H0.blkAt Has.n3
  refine range_box rfl (by decide) (gf := 56) (lb := #[.pointer (some ⟨w.heap.size + 1 + 1 + 1, 0, none⟩)]) rfl trivial (enters_of Tryd.func56 (by kernel_rfl) rfl)
    (back_stops Fence.wide _ trivial rfl (by decide) W0 (w.heap.size + 1 + 1 + 1) cap ad E hE (by omega) (H0.cell Has.n0 rfl) hs0) belowK_t (belowK_b (Nat.le_refl _)) (Below.refl _ _) (fun _ => rfl)
    (fun pre W => (∀ p, p ∈ pre → p.2.1 ≠ at') ∧ Below W0.heap.size W0 W)
    (fun c pre W => (c = .ret ∧ ∃ pre' p, pre = pre' ++ [p] ∧ (∀ q, q ∈ pre' → q.2.1 ≠ at') ∧ p.2.1 = at' ∧ Below w.heap.size w W ∧ Boxed W (w.heap.size + 1) 3 (.int .i64 p.2.2) ∧ Boxed W (w.heap.size + 1 + 1) 27 (.int .i64 0)))
    (OwnFrom.and (ownFrom_pure _ _) (ownFrom_below (β := List (Nat × En)) (Nat.le_refl _) (Nat.le_refl _)))
    (fun c u X Y row hs hg hr => by
      obtain ⟨hc, pre', p, h1, h2, h3, h4, h5, h6⟩ := hs
      exact ⟨hc, pre', p, h1, h2, h3, ownFrom_below (β := Unit) (Nat.le_refl _) hb0.size () X Y row h4 hg hr, (boxed_own _ _ (fun (_ : Unit) => Value.int .i64 p.2.2)).from _ () X Y row h5 hg hr, (boxed_own _ _ (fun (_ : Unit) => Value.int .i64 0)).from _ () X Y row h6 hg hr⟩)
    ⟨fun x h => (by cases h), Below.refl _ _⟩
    (fun p B W => W0.heap.size ≤ B ∧ Boxed2 W B 34 (.int .i64 p.2.1) (.int .i64 p.2.2))
    (fun x B u X Y row hs hg hr => ⟨hs.1, boxed2_own _ _ _ _ _ u X Y row hs.2 hg hr⟩)
    (fun a p B => { tmps := (((a.tmps.setIfInBounds 13 (.int .i64 (p.1 : Int))).setIfInBounds 14 (.agg #[.int .i64 p.2.1, .int .i64 p.2.2])).setIfInBounds 7 (.pointer (some ⟨B, 0, none⟩))), defers := [] })
    ?assign ?body ?done ?stop
  case assign =>
    rintro l pre x W K ⟨hpre, hm⟩ hK
    gi_wp2
    exact hK W.heap.size _ ((KeepsOthers.alloc _ _).from _) ((Below.refl _ W).alloc hm.size _) ⟨hpre, hm.alloc hm.size _⟩ ⟨hm.size, Boxed2.new _ _ _ _⟩
  case body =>
    rintro lp pre x B W ⟨hpre, hm⟩ ⟨hB, hbx⟩ _
    have hw0 := hb0.size
    have p0 := hbx.cell0
    have p1 := hbx.cell1
    have bb3 := (hm.block _ (by omega)).trans b3
    have bb4 := (hm.block _ (by omega)).trans b4
    have bb5 := (hm.block _ (by omega)).trans b5
    have c3 : W.cell? ⟨w.heap.size, 0, none⟩ = some (.int .i64 at') := by simp [World.cell?, bb3]
    have c4 : W.cell? ⟨w.heap.size + 1, 0, none⟩ = some (.int .i64 0) := by simp [World.cell?, bb4]
    have c5 : W.cell? ⟨w.heap.size + 1 + 1, 0, none⟩ = some (.int .i64 0) := by simp [World.cell?, bb5]
    have f4 : W.frozen? ⟨w.heap.size + 1, 0, none⟩ = false := by simp [World.frozen?, bb4]
    have f5 : W.frozen? ⟨w.heap.size + 1 + 1, 0, none⟩ = false := by simp [World.frozen?, bb5]
    have Hpre : Hid (∀ p, p ∈ pre → p.2.1 ≠ at') := hpre
    clear hpre
    by_cases hps : x.2.1 = at'
    · have Hps := Lib.hid hps
      have hpb : (x.2.1 == at') = true := by rw [beq_iff_eq]; exact hps
      clear hps
      simp only [List.setIfInBounds_toArray, List.set_cons_succ, List.set_cons_zero]
      gi_wp2
      refine ⟨((KeepsOthers.setCell _ _ _).trans (KeepsOthers.setCell _ _ _)).from _, rfl, pre, x, rfl, Hpre.out, Hps.out, ?_, ?_, ?_⟩
      · exact ((hb0.trans (hm.mono hw0)).setCell (Nat.le_succ _) _).setCell (by simp; omega) _
      · exact ((show Boxed W (w.heap.size + 1) 3 (.int .i64 0) from bb4).set _).other (by omega) _
      · exact ((show Boxed W (w.heap.size + 1 + 1) 27 (.int .i64 0) from bb5).other (by omega) _).set _
    · have hpb : (x.2.1 == at') = false := by rw [beq_eq_false_iff_ne]; exact hps
      have Hps := Lib.hid hps
      clear hps
      simp only [List.setIfInBounds_toArray, List.set_cons_succ, List.set_cons_zero]
      gi_wp2
      exact ⟨KeepsFrom.refl _ _, Below.refl _ _, fun y hy => by
        rcases List.mem_append.1 hy with h | h
        · exact Hpre.out y h
        · rw [List.mem_singleton] at h; subst h; exact Hps.out, hm⟩
  case done =>
    rintro D xs W hD rfl ⟨hpre, hm⟩ hK
    rename_i K hKc
    show K _ _
    refine hKc _ _ ?_
    have HD := H0.own1 hm hK hD
    refine wpIn_wide.2 ?_
    refine wp_tail (ds := [{ target := .collected D, args := #[] }]) mixed (A := redo_View_Load_t2_ann) (by kernel_rfl) (redo_View_Load_t2_ok (K := fun env w' => ∃ x27 x28 x29 x24 x23 x22 x25 x26, env = [.pointer (some ⟨v, 0, none⟩), .int .i64 at', undef, .pointer (some ⟨w.heap.size, 0, none⟩), .pointer (some ⟨w.heap.size + 1, 0, none⟩), .pointer (some ⟨w.heap.size + 1 + 1, 0, none⟩), undef, undef, .pointer (some ⟨v, 0, none⟩), .pointer (some ⟨v, 0, none⟩), .pointer (some ⟨v, 1, none⟩), .slice ad E.length cap, .func (.func 56) #[] #[.pointer (some ⟨w.heap.size + 1 + 1 + 1, 0, none⟩)], undef, undef, undef, undef, undef, undef, undef, undef, .pointer (some ⟨v, 0, none⟩), x22, x23, x24, x25, x26, x27, x28, x29] ∧
      Sat c (blk (w.heap.size + 1 + 1) [.int .i64 (loadM M.L at').2] 27 :: blk (w.heap.size + 1) [.int .i64 (loadM M.L at').1] 3 :: obj D (.deferred (some [])) :: VwH 70 v m E :: Γ) w') ?_) ?_
    · unfold redo_View_Load_t2_w
      obtain ⟨lv2, H⟩ := (HD.get Has.n5).openV
      (refine ⟨Sat _ _, Sat _ _, Sat.drew H, fun _ h => h, ?_⟩; (with_reducible (repeat (first | refine pu_st ?_ | refine bn_st ?_))))
      (refine ⟨_, fun w H => run_load1 (H.cell Has.n0 rfl), ?_⟩; (with_reducible (repeat (first | refine pu_st ?_ | refine bn_st ?_))))
      (refine ⟨_, fun w H => run_load1 (H.cell Has.n6 rfl), ?_⟩; (with_reducible (repeat (first | refine pu_st ?_ | refine bn_st ?_))))
      (refine ⟨fun w H => ?_, trivial⟩; (with_reducible (repeat (first | refine pu_st ?_ | refine bn_st ?_))))
      refine Cl.of memory_Memory_Load_en (Load_sp at' hat hok R hT H) ?_
      rintro _ w ⟨rfl, H⟩
      (refine ⟨Sat _ _, Sat _ _, H, fun _ h => h, (by first | trivial | exact fun _ h => h | exact fun _ h => h.tail | exact fun _ h => h.tail.tail), ?_⟩; (with_reducible (repeat (first | refine pu_st ?_ | refine bn_st ?_))))
      (refine ⟨fun w H => ?_, trivial⟩; (with_reducible (repeat (first | refine pu_st ?_ | refine bn_st ?_))))
      refine bn_store1 H Has.n5 (by simp) rfl fun w H => ?_
      (refine ⟨Sat _ _, Sat _ _, H, fun _ h => h, (by first | trivial | exact fun _ h => h | exact fun _ h => h.tail | exact fun _ h => h.tail.tail), ?_⟩; (with_reducible (repeat (first | refine pu_st ?_ | refine bn_st ?_))))
      (refine ⟨fun w H => ?_, trivial⟩; (with_reducible (repeat (first | refine pu_st ?_ | refine bn_st ?_))))
      refine bn_store1 H Has.n5 (by simp) rfl fun w H => ?_
      (refine ⟨Sat _ _, Sat _ _, H, fun _ h => h, (by first | trivial | exact fun _ h => h | exact fun _ h => h.tail | exact fun _ h => h.tail.tail), ?_⟩; (with_reducible (repeat (first | refine pu_st ?_ | refine bn_st ?_))))
      (intro w H; (with_reducible (repeat (first | refine pu_st ?_ | refine bn_st ?_))))
      refine ⟨_, _, _, _, _, _, _, _, rfl, ?_⟩
      have h6 := H.pull (ps := [_, _]) (.cons Has.n2 (.cons Has.n2 .nil))
      have h7 := ((h6.shutV).get Has.n4).tail
      have h8 := (h7.get Has.n4).tail
      have h9 := h8.pull (ps := [_, _, _, _]) (.cons Has.n1 (.cons Has.n1 (.cons Has.n1 (.cons Has.n0 .nil))))
      exact h9
    · rintro env w' ⟨x27, x28, x29, x24, x23, x22, x25, x26, rfl, H⟩
      have hp := (H.get Has.n2).putObj (o' := .deferred none)
      have d4 := hp.cell Has.n2 (j := 0) rfl
      have d5 := hp.cell Has.n1 (j := 0) rfl
      refine ⟨by simp [mkA], .inl ⟨_, _, rfl, run_takeDeferred (H.objAt Has.n2), ?_⟩⟩
      refine ⟨.tuple #[.int .i64 (loadM M.L at').1, .int .i64 (loadM M.L at').2], ?_, _, rfl, ?_, hp.tail.tail.tail⟩
      · simp [results, Tryd.results14, go_sem, mkA, d4, d5]
      · unfold loadV
        rw [lastE_no fun j y hy => hpre (j, y) (back_mem hy)]
  case stop =>
    rintro D c pre W hD ⟨k, hk⟩ ⟨rfl, pre', p, hp, hq, hp1, hbl, h5, h6⟩ hK
    have hw0 := hb0.size
    gi_wp2
    refine ⟨by simp, .inl ⟨_, _, rfl, run_takeDeferred hK, ?_⟩⟩
    have hbl2 : Below w.heap.size w (W.putObj D (.deferred none)) := hbl.trans (belowK_b (Nat.le_refl _) W D _ _ (by omega) hK rfl rfl)
    have e5 := (World.putObj_heap_other (w := W) (r := D) (o := .deferred none) (k := w.heap.size + 1) (by omega)).trans h5
    have e6 := (World.putObj_heap_other (w := W) (r := D) (o := .deferred none) (k := w.heap.size + 1 + 1) (by omega)).trans h6
    have d4 : (W.putObj D (.deferred none)).cell? ⟨w.heap.size + 1, 0, none⟩ = some (.int .i64 p.2.2) := by simp [World.cell?, e5]
    have d5 : (W.putObj D (.deferred none)).cell? ⟨w.heap.size + 1 + 1, 0, none⟩ = some (.int .i64 0) := by simp [World.cell?, e6]
    refine ⟨.tuple #[.int .i64 p.2.2, .int .i64 0], ?_, _, rfl, ?_, hH.below hbl2⟩
    · simp [results, Tryd.results14, go_sem, d4, d5]
    · unfold loadV
      rw [back_hit (hp.symm.trans hk) hq hp1]

end

end Go.Proofs.YtlolaieolgmdnaaDoor
