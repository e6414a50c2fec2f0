/-
  Merged entries: the program's and the specification's. (Printed by gen_rf.py.)
-/
import Derived.Test.YtlolaieolgmdnaaDoorRE

namespace Go.Proofs.YtlolaieolgmdnaaDoor

open Go.RowKit
set_option linter.unusedVariables false
set_option linter.unusedSimpArgs false
set_option maxRecDepth 10000

section

variable {c : Cx} {Γ Δ Ω : List HProp} {w : World} {m v : Nat} {M : MemS} {lv ev : Value} {ps : List Value} {mb ck : Nat} {es : Array MapEntry} {E : List En} {ty : TypeId}

theorem SlR.en {u : Value} {E : List En} {i : Nat} {x : En} (hu : SlR c u E.length ((E.map enC).flatten)) (H0 : Sat c Γ w) (hx : E[i]? = some x) :
    ∃ b o cap, u = .slice (some ⟨b, o, none⟩) E.length cap ∧ ∀ {Γ : List HProp} {w : World}, Sat c Γ w → cellsAt w b (o + i * 2) (enC x) := by
  obtain ⟨b, o, cap, rfl, -, -⟩ := slAt.elem (enc := enC) enC_len (hu H0) hx
  refine ⟨b, o, cap, rfl, fun H => ?_⟩
  obtain ⟨b', o', cap', e, -, hc⟩ := slAt.elem (enc := enC) enC_len (hu H) hx
  cases e; exact hc

theorem merged_sp {u : Value} (hE : E.length ≤ 1000000) (hD : ∀ x ∈ E, i64 x.1) (hu : SlR c u E.length ((E.map enC).flatten)) (H : Sat c Γ w) :
    Calls Tryd.prog 39 #[u] w (Rt fun u' w' => Sat c (ownS 34 2 u' (mergedE E).length (((mergedE E).map enC).flatten) :: Γ) w') := by
  obtain ⟨ad, cap, rfl, -⟩ := hu H
  refine redo_merged_ok ?_
  unfold redo_merged_w
  refine bn_map H fun mb w H => ?_
  (with_reducible (repeat (first | refine pu_st ?_ | refine bn_st ?_)))
  refine ⟨fun v w => ∃ i : Nat, i ≤ E.length ∧ v = .int .i64 (i : Int) ∧ ∃ es ck, MapV es ck (E.take i) ∧ Sat c (obj mb (.map es ck) :: Γ) w, fun v _ => E.length - (intOf v).toNat, ⟨0, Nat.zero_le _, rfl, #[], 0, ⟨by simp, by simp [lastE_nil], Go.MapKept.stamped_empty _, by simp⟩, H⟩, ?_⟩
  intros
  rename_i w hI
  obtain ⟨i, hi, rfl, es, ck, hV, H⟩ := hI
  (with_reducible (repeat (first | refine pu_st ?_ | refine bn_st ?_)))
  refine condD (fun hlt => ?_) (fun hlt => ?_)
  · have hlt : i < E.length := by omega
    obtain ⟨x, hx⟩ : ∃ x, E[i]? = some x := ⟨E[i]'(by omega), List.getElem?_eq_getElem _⟩
    obtain ⟨b1, o1, cap1, e, hc⟩ := hu.en H hx
    cases e
    refine pu_indexN hlt ?_
    refine bn_loadN (hc H) rfl ?_
    refine bn_alloc H fun b5 w H => ?_
    refine bn_storeN (vs := enC x) H Has.n0 rfl (by simp [enC]) (enC_one x) fun w H => ?_
    replace H : Sat c (blk b5 (enC x) 34 :: obj mb (.map es ck) :: Γ) w := H
    (with_reducible (repeat (first | refine pu_st ?_ | refine bn_st ?_)))
    (refine bn_load1 (Sat.cell H Has.n0 rfl) ?_; (with_reducible (repeat (first | refine pu_st ?_ | refine bn_st ?_))))
    (refine bn_load1 (Sat.cell H Has.n0 rfl) ?_; (with_reducible (repeat (first | refine pu_st ?_ | refine bn_st ?_))))
    have hst : E.take (i + 1) = E.take i ++ [(x.1, x.2)] := take_succ_of hx
    refine bn_mapPut H Has.n1 hV.ints (fun hnew w H => ?_) (fun n e hn hk w H => ?_)
    · refine pu_succ (by omega) ?_
      refine ⟨⟨i + 1, by omega, rfl, _, _, ?_, (H.get Has.n1).tail⟩, by simp [intOf]; omega⟩
      rw [hst]; exact hV.push x.1 x.2 hnew
    · refine pu_succ (by omega) ?_
      refine ⟨⟨i + 1, by omega, rfl, _, _, ?_, (H.get Has.n1).tail⟩, by simp [intOf]; omega⟩
      rw [hst]; exact hV.turn x.1 x.2 hn hk
  · have : i = E.length := by omega
    subst this
    rw [List.take_length] at hV
    refine Cl.of (by kernel_rfl) (Keys_sp mb H) ?_
    rintro _ w ⟨b, rfl, H⟩
    refine Cl.of (by kernel_rfl) (Sorted_sp hV hD hE H Has.n0 Has.n1) ?_
    rintro t24 w ⟨ks, hasc, hmem, H⟩
    obtain ⟨a4, cap4, rfl, -⟩ := H.slAt Has.n0
    have hkl : ks.length ≤ E.length := by
      have h1 := mergedE_of E ks hasc hmem
      have h2 := mergedE_len E
      rw [h1, List.length_map] at h2
      exact h2
    (with_reducible (repeat (first | refine pu_st ?_ | refine bn_st ?_)))
    refine ⟨fun u v w => ∃ i : Nat, i ≤ ks.length ∧ v = .int .i64 (i : Int) ∧ Sat c (ownS 34 2 u i ((((ks.take i).map fun k => (k, (lastE E k).getD 0)).map enC).flatten) :: ownS 3 1 (.slice a4 ks.length cap4) ks.length ((ks.map intC).flatten) :: blk b [.map (some mb)] 100 :: obj mb (.map es ck) :: Γ) w, fun _ v _ => ks.length - (intOf v).toNat, ⟨0, Nat.zero_le _, rfl, Sat.nilS none H⟩, ?_⟩
    intros
    rename_i w hI
    obtain ⟨i, hi, rfl, H⟩ := hI
    (with_reducible (repeat (first | refine pu_st ?_ | refine bn_st ?_)))
    refine condD (fun hlt => ?_) (fun hlt => ?_)
    · have hlt : i < ks.length := by omega
      obtain ⟨k, hk⟩ : ∃ k, ks[i]? = some k := ⟨ks[i]'(by omega), List.getElem?_eq_getElem _⟩
      obtain ⟨b1, o1, cap1, e, -, hc⟩ := slAt.elem (enc := intC) (fun _ => rfl) (H.slAt Has.n1) hk
      cases e
      obtain ⟨x, hx⟩ := Option.ne_none_iff_exists'.1 ((hmem k).1 (List.mem_of_getElem? hk))
      refine pu_indexN hlt ?_
      refine bn_load1 (hc 0 _ rfl) ?_
      refine bn_mapGet H Has.n3 hV hx ?_
      refine pu_build (cs := enC (k, x)) (by kernel_rfl) ?_
      refine bn_one (cs := enC (k, x)) rfl (enC_len _) (by decide) H fun u1 w H => ?_
      refine bn_appendR H Has.n1 (H.slAt Has.n0) rfl (enC_one _) (by omega) (by unfold maxLen; omega) (by omega) fun lv' w H => ?_
      refine pu_succ (by omega) ?_
      refine ⟨⟨i + 1, by omega, rfl, ?_⟩, by simp [intOf]; omega⟩
      have h4 := (H.get Has.n1).tail
      rw [take_succ_of hk]
      simpa [hx] using h4
    · have : i = ks.length := by omega
      subst this
      rw [List.take_length, ← mergedE_of E ks hasc hmem] at H
      have hl : ks.length = (mergedE E).length := by rw [mergedE_of E ks hasc hmem, List.length_map]
      rw [hl] at H
      have h4 := ((((H.get Has.n1).tail).get Has.n1).tail.get Has.n1).tail
      exact h4

theorem Entries_sp (hE : E.length ≤ 1000000) (hD : ∀ x ∈ E, i64 x.1) (H : Sat c (VwH 70 v m E :: Γ) w) :
    Calls Tryd.prog 12 #[.pointer (some ⟨v, 0, none⟩)] w (Rt fun u w' => Sat c (ownS 34 2 u (mergedE E).length (((mergedE E).map enC).flatten) :: VwH 70 v m E :: Γ) w') := by
  obtain ⟨lv, H⟩ := H.openV
  refine redo_View_Entries_ok ?_
  unfold redo_View_Entries_w
  (with_reducible (repeat (first | refine pu_st ?_ | refine bn_st ?_)))
  (refine bn_load1 (Sat.cell H Has.n0 rfl) ?_; (with_reducible (repeat (first | refine pu_st ?_ | refine bn_st ?_))))
  obtain ⟨c', hA, hm, H', back⟩ := (H.get Has.n1).lent
  refine Cl.of redo_merged_en (merged_sp hE hD hA.slR H') ?_
  rintro u w H'
  have h1 := back H'
  exact ((h1.pull (ps := [_, _]) (.cons Has.n2 (.cons Has.n0 .nil))).shutV).get Has.n1

end

end Go.Proofs.YtlolaieolgmdnaaDoor
