/-
  Lines of entries (Sort, Compact); records merged; a new memory.
-/
import Derived.Test.YtlolaieolgmdnaaDoorRG

import Derived.Test.YtlolaieolgmdnaaDoorShelf

import Derived.Sort.OwnSortedInts

namespace Go.Proofs.YtlolaieolgmdnaaDoor

open Go.RowKit
set_option linter.unusedVariables false
set_option linter.unusedSimpArgs false
set_option maxRecDepth 10000

section

variable {c : Cx} {Γ Δ Ω : List HProp} {w : World} {m v : Nat} {M : MemS} {lv ev : Value} {ps : List Value} {mb ck : Nat} {es : Array MapEntry} {E : List En}

/-- One owned block has turned, others may be new. -/
theorem Sat.grown1 {w' : World} {g : Nat} {o o' : Obj} (H : Sat c (obj g o :: Γ) w) (hg : w.grownBy w' (some g)) (ho : w'.heap[g]? = some o') : Sat c (obj g o' :: Γ) w' := by
  have hro := (H.block).2
  have hkeep : ∀ k x, k ≠ g → w.heap[k]? = some x → w'.heap[k]? = some x := fun k x hk hx => by
    have hlt : k < w.heap.size := by
      rcases Nat.lt_or_ge k w.heap.size with h | h
      · exact h
      · rw [Array.getElem?_eq_none h] at hx; cases hx
    rw [hg.block k hlt (fun e => hk (by injection e))]; exact hx
  obtain ⟨f, r, s, hp, hr⟩ := H.own
  have hfg : f g = some o := hp
  have hrg : r g = none := by
    rcases s g with ⟨_, y⟩ | ⟨_, y⟩
    · exact y
    · rw [hfg] at y; cases y
  refine ⟨hg.os.trans H.os, hg.tape.trans H.tape, hg.output.trans H.output, fun k x hk => ?_, ?_⟩
  · have hkb : k ≠ g := fun e => by subst e; rw [hro] at hk; cases hk
    exact hkeep k x hkb (H.ro k x hk)
  · refine ⟨fun k => if k = g then some o' else none, fun k => if k = g then none else restH c w' k, fun k => ?_, by simp [obj], stars_mono hr fun k x hk => ?_⟩
    · by_cases hk : k = g
      · subst hk; left; simp [restH, hro, ho]
      · right; simp [hk]
    · have hkg : k ≠ g := fun e => by subst e; rw [hrg] at hk; cases hk
      rw [if_neg hkg]
      have h1 : restH c w k = some x := by
        rcases s k with ⟨_, y⟩ | ⟨y, _⟩
        · rw [y] at hk; cases hk
        · rw [← y]; exact hk
      unfold restH at h1 ⊢
      split at h1
      · cases h1
      · rename_i hro
        rw [if_neg hro]; exact hkeep k x hkg h1

theorem ints_flat : ∀ l : List Int, (l.map intC).flatten = l.map (Value.int .i64)
  | [] => rfl
  | x :: l => by rw [List.map_cons, List.flatten_cons, ints_flat l]; rfl

theorem putCells_app (d : List Int) (xs sp : List Value) (h : d.length = xs.length) : Go.Sort.putCells (Value.int .i64) 0 d.toArray (xs ++ sp).toArray = (d.map (Value.int .i64) ++ sp).toArray := by
  apply Array.ext_getElem?
  intro j
  simp only [Go.Sort.putCells, Array.getElem?_mapIdx, List.getElem?_toArray]
  by_cases hj : j < d.length
  · rw [List.getElem?_append_left (by rw [← h]; exact hj), List.getElem?_append_left (by simpa using hj), List.getElem?_eq_getElem (by rw [← h]; exact hj)]
    simp [hj]
  · rw [List.getElem?_append_right (by omega), List.getElem?_append_right (by simp; omega), List.length_map, h]
    cases sp[j - xs.length]? with
    | none => rfl
    | some y => simp [hj]

theorem Sort_sp {u : Value} {l : List Int} (hl : l.length ≤ 1000000) (H : Sat c Γ w) (hf : Has Γ (ownS 3 1 u l.length ((l.map intC).flatten)) Δ) :
    Calls Tryd.prog 49 #[u] w (Rt fun _ w' => Sat c (ownS 3 1 u l.length (((l.mergeSort fun x y => decide (x ≤ y)).map intC).flatten) :: Δ) w') := by
  have H := H.get hf
  obtain ⟨hlen, h⟩ := H.openS
  rcases h with ⟨a, rfl, h0, hx, H1⟩ | ⟨b, cap, sp, rfl, h1, h2, H1⟩
  · have hz : l = [] := List.eq_nil_of_length_eq_zero h0
    subst hz
    refine (Tryd.slices_Sort_int_none a 0 w).mono ?_
    rintro e w' ⟨rfl, rfl⟩
    refine ⟨_, rfl, ?_⟩
    rw [show ([] : List Int).mergeSort (fun x y => decide (x ≤ y)) = [] from List.mergeSort_nil]
    exact H
  · have hblk := H1.blkAt Has.n0
    have hlt : b < w.heap.size := (Array.getElem?_eq_some_iff.1 hblk).1
    have hH : Go.Sort.Holds (Value.int .i64) w b 0 l.toArray := fun j hj => by
      have hj' : j < l.length := by simpa using hj
      refine ⟨?_, H1.free Has.n0 _⟩
      refine H1.cell Has.n0 ?_
      rw [Nat.zero_add, ints_flat, List.getElem?_append_left (by simpa using hj'), List.getElem?_map, List.getElem?_eq_getElem hj']
      simp [hj']
    refine (Tryd.slices_Sort_int b 0 cap l w hH hlt (by omega)).mono ?_
    rintro e w' ⟨rfl, n, os, rfl⟩
    refine ⟨_, rfl, ?_⟩
    have hs := heap_sortedI (n := n) (os := os) (l.mergeSort fun x y => decide (x ≤ y)).toArray hblk
    rw [ints_flat, putCells_app _ _ _ (by simp)] at hs
    have H2 := Sat.grown1 (o := .cells (((l.map intC).flatten ++ sp).toArray) 3 (0, 0)) H1 (grownBy_sortedI (os := os) (n := n) (l.mergeSort fun x y => decide (x ≤ y)).toArray) hs
    refine Sat.shutS (sp := sp) ?_ ?_ h1 ?_
    · rw [ints_flat]; exact H2
    · rw [ints_flat]; simp
    · rw [ints_flat]; rw [← h2, ints_flat]; simp

theorem compact_len (l : List Int) : (Lib.compact l).length ≤ l.length := by
  unfold Lib.compact Lib.compactUpTo
  rw [List.length_map]
  exact Nat.le_trans (List.length_filter_le _ _) (by simp)

theorem Compact_sp {u : Value} {l : List Int} (hl : l.length ≤ 1000000) (H : Sat c Γ w) (hf : Has Γ (ownS 3 1 u l.length ((l.map intC).flatten)) Δ) :
    Calls Tryd.prog 50 #[u] w (Rt fun u' w' => Sat c (ownS 3 1 u' (Lib.compact l).length (((Lib.compact l).map intC).flatten) :: Δ) w') := by
  have H := H.get hf
  obtain ⟨hlen, h⟩ := H.openS
  rcases h with ⟨a, rfl, h0, hx, H1⟩ | ⟨b, cap, sp, rfl, h1, h2, H1⟩
  · have hz : l = [] := List.eq_nil_of_length_eq_zero h0
    subst hz
    refine (Tryd.slices_Compact_int_empty a 0 w).mono ?_
    rintro e w' ⟨rfl, rfl⟩
    exact ⟨_, rfl, H⟩
  · have hblk := H1.blkAt Has.n0
    have hH : Go.Sort.Holds (Value.int .i64) w b 0 l.toArray := fun j hj => by
      have hj' : j < l.length := by simpa using hj
      refine ⟨?_, H1.free Has.n0 _⟩
      refine H1.cell Has.n0 ?_
      rw [Nat.zero_add, ints_flat, List.getElem?_append_left (by simpa using hj'), List.getElem?_map, List.getElem?_eq_getElem hj']
      simp [hj']
    refine (Tryd.slices_Compact_int b 0 cap l w hH (by omega) h1).mono ?_
    rintro e w' ⟨rfl, n, rfl⟩
    refine ⟨_, rfl, ?_⟩
    have hcl := compact_len l
    have hs := heap_sortedI (n := n) (os := #[]) (Lib.compact l ++ List.replicate (l.length - (Lib.compact l).length) 0).toArray hblk
    have hg := grownBy_sortedI (w := w) (g := b) (os := #[]) (n := n) (Lib.compact l ++ List.replicate (l.length - (Lib.compact l).length) 0).toArray
    rw [Go.Sort.grow_empty] at hs hg
    rw [ints_flat, putCells_app _ _ _ (by simp; omega), List.map_append, List.append_assoc] at hs
    have H2 := Sat.grown1 (o := .cells (((l.map intC).flatten ++ sp).toArray) 3 (0, 0)) H1 hg hs
    refine Sat.shutS (sp := (List.replicate (l.length - (Lib.compact l).length) 0).map (Value.int .i64) ++ sp) ?_ ?_ (by omega) ?_
    · rw [ints_flat]; exact H2
    · rw [ints_flat]; simp
    · rw [ints_flat]; rw [← h2, ints_flat]; simp; omega

def linesE (E : List En) : List Int := Lib.compact ((E.map fun x => x.1.tdiv 8).mergeSort fun x y => decide (x ≤ y))

theorem intC_one (x : Int) : ∀ v ∈ intC x, v.oneCell' = true := by simp [intC, Value.oneCell']

theorem LinesE_sp {u : Value} (hE : E.length ≤ 1000000) (hD : ∀ x ∈ E, i64 x.1) (hu : SlR c u E.length ((E.map enC).flatten)) (H : Sat c Γ w) :
    Calls Tryd.prog 32 #[u] w (Rt fun u' w' => Sat c (ownS 3 1 u' (linesE E).length (((linesE E).map intC).flatten) :: Γ) w') := by
  obtain ⟨ad, cap, rfl, -⟩ := hu H
  refine redo_Lines_ok ?_
  unfold redo_Lines_w
  (with_reducible (repeat (first | refine pu_st ?_ | refine bn_st ?_)))
  refine ⟨fun u v w => ∃ i : Nat, i ≤ E.length ∧ v = .int .i64 (i : Int) ∧ Sat c (ownS 3 1 u i ((((E.take i).map fun x => x.1.tdiv 8).map intC).flatten) :: Γ) w, fun _ v _ => E.length - (intOf v).toNat, ⟨0, Nat.zero_le _, rfl, Sat.nilS none H⟩, ?_⟩
  intros
  rename_i w hI
  obtain ⟨i, hi, rfl, H⟩ := hI
  (with_reducible (repeat (first | refine pu_st ?_ | refine bn_st ?_)))
  refine condD (fun hlt => ?_) (fun hlt => ?_)
  · have hlt : i < E.length := by omega
    obtain ⟨x, hx⟩ : ∃ x, E[i]? = some x := ⟨E[i]'(by omega), List.getElem?_eq_getElem _⟩
    obtain ⟨b1, o1, cap1, e, hc⟩ := hu.en H hx
    cases e
    refine pu_indexN hlt ?_
    refine bn_loadN (hc H) rfl ?_
    refine bn_alloc H fun b5 w H => ?_
    refine bn_storeN (vs := enC x) H Has.n0 rfl (by simp [enC]) (enC_one x) fun w H => ?_
    have H := H.get Has.n0
    (with_reducible (repeat (first | refine pu_st ?_ | refine bn_st ?_)))
    refine bn_load1 (H.cell (cs := enC x) (t := 34) Has.n0 rfl) ?_
    refine pu_quo (by omega) (tdiv_i64 (hD x (List.mem_of_getElem? hx))) ?_
    refine bn_one (cs := intC (x.1.tdiv 8)) rfl rfl (by simp [intC]) H fun u1 w H => ?_
    refine bn_appendR H Has.n2 (H.slAt Has.n0) rfl (intC_one _) (by omega) (by unfold maxLen; omega) (by omega) fun lv' w H => ?_
    refine pu_succ (by omega) ?_
    refine ⟨⟨i + 1, by omega, rfl, ?_⟩, by simp [intOf]; omega⟩
    have h4 := (((H.get Has.n1).tail).get Has.n1).tail
    rw [take_succ_of hx]
    simpa using h4
  · have : i = E.length := by omega
    subst this
    rw [List.take_length] at H
    rw [show E.length = (E.map fun x => x.1.tdiv 8).length by simp] at H
    refine Cl.of (by kernel_rfl) (Sort_sp (by simpa using hE) H Has.n0) ?_
    rintro _ w H
    rw [show (E.map fun x => x.1.tdiv 8).length = ((E.map fun x => x.1.tdiv 8).mergeSort fun x y => decide (x ≤ y)).length by simp] at H
    refine Cl.of (by kernel_rfl) (Compact_sp (by simpa using hE) H Has.n0) ?_
    rintro u' w H
    exact H

/-! ### Records -/

abbrev Rec := Int × List En
def recC (r : Rec × Value) : List Value := [.int .i64 r.1.1, r.2]
theorem recC_len (r : Rec × Value) : (recC r).length = 2 := rfl
theorem recC_one {r : Rec × Value} (h : r.2.oneCell' = true) : ∀ v ∈ recC r, v.oneCell' = true := by
  intro q hq
  simp only [recC, List.mem_cons, List.not_mem_nil, or_false] at hq
  rcases hq with rfl | rfl
  · rfl
  · exact h
def allE (l : List Rec) : List En := (l.map fun r => r.2).flatten

theorem Merge_sp {u : Value} {rs : List (Rec × Value)} (hn : rs.length ≤ 1000000) (hE : (allE (rs.map (·.1))).length ≤ 1000000) (hD : ∀ x ∈ allE (rs.map (·.1)), i64 x.1) (hu : SlR c u rs.length ((rs.map recC).flatten))
    (hr : ∀ r ∈ rs, SlR c r.2 r.1.2.length ((r.1.2.map enC).flatten)) (H : Sat c Γ w) :
    Calls Tryd.prog 17 #[u] w (Rt fun u' w' => Sat c (ownS 34 2 u' (mergedE (allE (rs.map (·.1)))).length (((mergedE (allE (rs.map (·.1)))).map enC).flatten) :: Γ) w') := by
  obtain ⟨ad, cap, rfl, -⟩ := hu H
  refine redo_Merge_ok ?_
  unfold redo_Merge_w
  (with_reducible (repeat (first | refine pu_st ?_ | refine bn_st ?_)))
  refine ⟨fun u v w => ∃ i : Nat, i ≤ rs.length ∧ v = .int .i64 (i : Int) ∧ Sat c (ownS 34 2 u (allE ((rs.take i).map (·.1))).length (((allE ((rs.take i).map (·.1))).map enC).flatten) :: Γ) w, fun _ v _ => rs.length - (intOf v).toNat, ⟨0, Nat.zero_le _, rfl, Sat.nilS none H⟩, ?_⟩
  intros
  rename_i w hI
  obtain ⟨i, hi, rfl, H⟩ := hI
  (with_reducible (repeat (first | refine pu_st ?_ | refine bn_st ?_)))
  refine condD (fun hlt => ?_) (fun hlt => ?_)
  · have hlt : i < rs.length := by omega
    obtain ⟨x, hx⟩ : ∃ x, rs[i]? = some x := ⟨rs[i]'(by omega), List.getElem?_eq_getElem _⟩
    obtain ⟨b1, o1, cap1, e, -, hc⟩ := slAt.elem (enc := recC) recC_len (hu H) hx
    cases e
    have hx1 : x.2.oneCell' = true := by obtain ⟨a, cap, e, -⟩ := hr x (List.mem_of_getElem? hx) H; rw [e]; rfl
    have hle : (allE ((rs.take i).map (·.1))).length + x.1.2.length ≤ (allE (rs.map (·.1))).length := by
      have h1 : rs = rs.take i ++ x :: rs.drop (i + 1) := by
        have := (List.take_append_drop i rs).symm
        rw [List.drop_eq_getElem_cons hlt] at this
        have hxe := (List.getElem?_eq_some_iff.1 hx).2
        rwa [hxe] at this
      conv => rhs; rw [h1]
      simp [allE]
    refine pu_indexN hlt ?_
    refine bn_loadN hc rfl ?_
    refine bn_alloc H fun b5 w H => ?_
    refine bn_storeN (vs := recC x) H Has.n0 rfl (by simp [recC]) (recC_one hx1) fun w H => ?_
    have H := H.get Has.n0
    (with_reducible (repeat (first | refine pu_st ?_ | refine bn_st ?_)))
    refine bn_load1 (H.cell (cs := recC x) (t := 44) Has.n0 rfl) ?_
    refine bn_appendR H Has.n1 (hr x (List.mem_of_getElem? hx) H) (rows_length enC 2 enC_len _) (all_one_rows enC _ enC_one) (by omega) (by unfold maxLen; omega) (by omega) fun lv' w H => ?_
    refine pu_succ (by omega) ?_
    refine ⟨⟨i + 1, by omega, rfl, ?_⟩, by simp [intOf]; omega⟩
    have h4 := (H.get Has.n1).tail
    rw [take_succ_of hx]
    simpa [allE] using h4
  · have : i = rs.length := by omega
    subst this
    rw [List.take_length] at H
    obtain ⟨c', hA, hm, H', back⟩ := H.lent
    refine Cl.of redo_merged_en (merged_sp hE hD hA.slR H') ?_
    rintro u w H'
    exact ((back H').tail)

end

end Go.Proofs.YtlolaieolgmdnaaDoor
