/-
  The law's walk: RedoViewsShow.
-/
import Derived.Test.YtlolaieolgmdnaaDoorVS

import Derived.Test.YtlolaieolgmdnaaDoorPlainS

namespace Go.Proofs.YtlolaieolgmdnaaDoor

open Go.RowKit
set_option linter.unusedVariables false
set_option linter.unusedSimpArgs false
set_option maxRecDepth 10000

theorem setV_can {M : MemS} {E : List En} {x : En} (h : CanPut M x) : setV M.L.length E x.1 x.2 = (0, E ++ [x]) := by
  obtain ⟨h0, h1, y, hy, hc⟩ := h
  have := (List.getElem?_eq_some_iff.1 hy).1
  have := okW_iff.1 h1
  unfold setV hasV
  rw [line_of h0, if_neg (by simp; omega), if_neg (by omega)]

section

variable {c : Cx} {Γ Δ Ω : List HProp} {w : World} {m r : Nat} {M : MemS} {lv ev : Value} {ps : List Value} {mb ck : Nat} {es : Array MapEntry} {E S : List En}

theorem views_sp {u t : Value} {l : List Im} (hn : l.length ≤ 9223372036854775807) (hu : SlR c u l.length ((l.map imgC).flatten)) (ht : SlR c t E.length ((E.map enC).flatten))
    (hEi : ∀ x ∈ E, i64 x.1) (hT : TabC c) (H : Sat c Γ w) :
    Calls Tryd.prog 3 #[u, t] w (Rt (Yes c Γ (.bool true))) := by
  refine alumlaw10_RedoViewsShow_ok ?_
  unfold alumlaw10_RedoViewsShow_w
  obtain ⟨ua, ucap, hue, -⟩ := hu H
  obtain ⟨ta, tcap, hte, -⟩ := ht H
  refine Cl.of memory_From_en (From_sp hn hu H) ?_
  rintro t16 w h
  rcases h with ⟨hr, rfl, H⟩ | ⟨hr, m, rfl, H⟩
  · (with_reducible (repeat (first | refine pu_st ?_ | refine bn_st ?_)))
    refine condB (fun _ => ?_) (fun h => by cases h)
    refine Cl.of (by kernel_rfl) (sanity_sp hT H) ?_
    rintro _ w ⟨rfl, H⟩
    exact ⟨rfl, H⟩
  subst hue
  subst hte
  (with_reducible (repeat (first | refine pu_st ?_ | refine bn_st ?_)))
  refine condB (fun h => by cases h) (fun _ => ?_)
  (with_reducible (repeat (first | refine pu_st ?_ | refine bn_st ?_)))
  refine condD (fun h12 => ?_) (fun h12 => ?_)
  · refine Cl.of (by kernel_rfl) (sanity_sp hT H) ?_
    rintro _ w ⟨rfl, H⟩
    exact ⟨rfl, H.tail⟩
  (with_reducible (repeat (first | refine pu_st ?_ | refine bn_st ?_)))
  refine condD (fun h40 => ?_) (fun h40 => ?_)
  · refine Cl.of (by kernel_rfl) (sanity_sp hT H) ?_
    rintro _ w ⟨rfl, H⟩
    exact ⟨rfl, H.tail⟩
  have hlen : l.length ≤ 12 := by omega
  have hokN : MemS.okN ⟨l.map lineOf, 0, []⟩ 0 := ⟨by simp; omega, fun y hy => by
    obtain ⟨x, _, rfl⟩ := List.mem_map.1 hy
    exact ⟨fun s hs => (by cases hs), by simp [lineOf], by simp [lineOf], by simp [lineOf]⟩, by simp⟩
  have hgood : MemS.good ⟨l.map lineOf, 0, []⟩ := ⟨fun y hy => by
    obtain ⟨x, hx, rfl⟩ := List.mem_map.1 hy
    exact ⟨⟨right_line hr hx, fun h => absurd rfl h, fun s hs => (by cases hs)⟩, by simp [lineOf], by simp [lineOf]⟩⟩
  have hML : (⟨l.map lineOf, 0, []⟩ : MemS).L.length ≤ 12 := by simp; exact hlen
  generalize (⟨l.map lineOf, 0, []⟩ : MemS) = M0 at *
  have hok0 := hokN.ok (by omega)
  obtain ⟨mb, es, ck, HM⟩ := H.nameM
  obtain ⟨c1, lv, ps, ev, R, hT1, m1, H1, back⟩ := HM.lentM hT
  have ht1 : SlR c1 (.slice ta E.length tcap) E.length ((E.map enC).flatten) := fun H => ht (back H)
  refine Cl.of redo_Check_en (Check_sp (by omega) hEi ht1 R hT1 H1) ?_
  rintro _ w ⟨rfl, H1⟩
  (with_reducible (repeat (first | refine pu_st ?_ | refine bn_st ?_)))
  refine condND (fun h => ?_) (fun hchk => ?_)
  · refine Cl.of (by kernel_rfl) (sanity_sp hT1 H1) ?_
    rintro _ w ⟨rfl, H1⟩
    exact ⟨rfl, (back H1).tail⟩
  have hcan := check_can hchk
  refine Cl.of redo_Over_en (Over_sp H1) ?_
  rintro _ w ⟨v, rfl, H1⟩
  refine Cl.of memory_Memory_Copy_en (Copy_sp hok0 R H1) ?_
  rintro _ w ⟨a, rfl, H1⟩
  refine Cl.of memory_Memory_Copy_en (Copy_sp hok0 R H1) ?_
  rintro _ w ⟨b, rfl, H1⟩
  (with_reducible (repeat (first | refine pu_st ?_ | refine bn_st ?_)))
  refine condB (fun h => by cases h) (fun _ => ?_)
  (with_reducible (repeat (first | refine pu_st ?_ | refine bn_st ?_)))
  refine condB (fun h => by cases h) (fun _ => ?_)
  (with_reducible (repeat (first | refine pu_st ?_ | refine bn_st ?_)))
  refine condB (fun h => by cases h) (fun _ => ?_)
  (with_reducible (repeat (first | refine pu_st ?_ | refine bn_st ?_)))
  refine ⟨fun v1 w => ∃ i : Nat, i ≤ E.length ∧ v1 = .int .i64 (i : Int) ∧ Sat c1 (VwH 70 v m (E.take i) :: MemH b M0 :: MemH a M0 :: Γ) w, fun v _ => E.length - (intOf v).toNat, ⟨0, Nat.zero_le _, rfl, H1.get Has.n2⟩, ?_⟩
  intros
  rename_i w hI
  obtain ⟨i, hi, rfl, H⟩ := hI
  (with_reducible (repeat (first | refine pu_st ?_ | refine bn_st ?_)))
  refine condD (fun hlt => ?_) (fun hlt => ?_)
  · have hlt : i < E.length := by omega
    obtain ⟨x, hx⟩ : ∃ x, E[i]? = some x := ⟨E[i]'(by omega), List.getElem?_eq_getElem _⟩
    have hxm := List.mem_of_getElem? hx
    obtain ⟨b1, o1, cap1, e, hc⟩ := ht1.en H hx
    cases e
    refine pu_indexN hlt ?_
    refine bn_loadN (hc H) rfl ?_
    refine bn_alloc H fun b5 w H => ?_
    refine bn_storeN (vs := enC x) H Has.n0 rfl (by simp [enC]) (enC_one x) fun w H => ?_
    have H := H.get Has.n0
    (with_reducible (repeat (first | refine pu_st ?_ | refine bn_st ?_)))
    refine bn_load1 (H.cell (cs := enC x) (t := 34) Has.n0 rfl) ?_
    (with_reducible (repeat (first | refine pu_st ?_ | refine bn_st ?_)))
    refine bn_load1 (H.cell (cs := enC x) (t := 34) Has.n0 rfl) ?_
    refine Cl.of redo_View_Set_en (Set_sp x.1 x.2 (hEi x hxm) (by rw [List.length_take]; omega) R (H.get Has.n1)) ?_
    rintro _ w ⟨rfl, H⟩
    rw [setV_can (hcan x hxm)] at H ⊢
    (with_reducible (repeat (first | refine pu_st ?_ | refine bn_st ?_)))
    refine condND (fun h => absurd rfl h) (fun _ => ?_)
    refine pu_succ (by omega) ?_
    refine ⟨⟨i + 1, by omega, rfl, ?_⟩, by simp [intOf]; omega⟩
    rw [take_succ_of hx]
    exact (H.get Has.n1).tail
  have : i = E.length := by omega
  subst this
  rw [List.take_length] at H
  have hml := mergedE_len E
  have hmD : ∀ x ∈ mergedE E, i64 x.1 := fun x hx => hEi x (merged_sub hx)
  refine Cl.of redo_View_Entries_en (Entries_sp (by omega) hEi H) ?_
  rintro mv w H
  obtain ⟨c2, A2, m2, H2, back2⟩ := H.lent
  refine Cl.of redo_Apply_en (Apply_sp hokN (by omega) hmD A2.slR (fun H => hT1 (back2 H)) (H2.get Has.n2)) ?_
  rintro _ w ⟨rfl, H2⟩
  have H := (back2 H2).tail
  clear H2 back2 m2 A2
  rw [applyM_ok (check_sub hchk fun x hx => merged_sub hx)]
  have hokA := (hokN.apply (mergedE E)).ok (by omega)
  have hokB := (hokN.apply E).ok (by omega)
  (with_reducible (repeat (first | refine pu_st ?_ | refine bn_st ?_)))
  refine condND (fun h => absurd rfl h) (fun _ => ?_)
  refine Cl.of redo_Apply_en (Apply_sp hokN (by omega) hEi ht1 hT1 (H.get Has.n2)) ?_
  rintro _ w ⟨rfl, H⟩
  rw [applyM_ok hchk]
  (with_reducible (repeat (first | refine pu_st ?_ | refine bn_st ?_)))
  refine condND (fun h => absurd rfl h) (fun _ => ?_)
  have hloads : ∀ at' : Int, loadM (applyM M0 (mergedE E)).2.L at' = loadV M0 E at' ∧ loadM (applyM M0 E).2.L at' = loadV M0 E at' := fun at' => by
    rw [load_apply hgood (check_sub hchk fun x hx => merged_sub hx), load_apply hgood hchk, lastE_merged]
    exact ⟨rfl, rfl⟩
  generalize (applyM M0 (mergedE E)).2 = A at *
  generalize (applyM M0 E).2 = B at *
  refine ⟨fun v1 w => ∃ i : Nat, i ≤ 8 * M0.L.length ∧ v1 = .int .i64 (i : Int) ∧ Sat c1 (VwH 70 v m E :: MemH a A :: MemH b B :: Γ) w, fun v _ => 8 * M0.L.length - (intOf v).toNat, ⟨0, Nat.zero_le _, rfl, (H.get Has.n1).get Has.n2⟩, ?_⟩
  intros
  rename_i w hI
  obtain ⟨i, hi, rfl, H⟩ := hI
  have hi64 : i64 (i : Int) := by unfold i64; omega
  refine Cl.of memory_Memory_Lines_en (Lines_sp R H) ?_
  rintro _ w ⟨rfl, H⟩
  refine pu_mul (by unfold i64; omega) ?_
  (with_reducible (repeat (first | refine pu_st ?_ | refine bn_st ?_)))
  refine condD (fun hlt => ?_) (fun hlt => ?_)
  · obtain ⟨e1, e2⟩ := hloads (i : Int)
    refine Cl.of (by kernel_rfl) (VLoad_sp (i : Int) hi64 (by omega) hok0 R hT1 H) ?_
    rintro _ w ⟨rfl, H⟩
    (with_reducible (repeat (first | refine pu_st ?_ | refine bn_st ?_)))
    obtain ⟨mb2, es2, ck2, HM⟩ := (H.get Has.n1).nameM
    obtain ⟨c2, lv2, ps2, ev2, R2, hT2, m2, H2, back2⟩ := HM.lentM hT1
    refine Cl.of memory_Memory_Load_en (Load_sp (i : Int) hi64 hokA R2 hT2 H2) ?_
    rintro _ w ⟨rfl, H2⟩
    have H := (back2 H2).hideM
    clear HM R2 hT2 m2 H2 back2
    (with_reducible (repeat (first | refine pu_st ?_ | refine bn_st ?_)))
    obtain ⟨mb2, es2, ck2, HM⟩ := (H.get Has.n2).nameM
    obtain ⟨c2, lv2, ps2, ev2, R2, hT2, m2, H2, back2⟩ := HM.lentM hT1
    refine Cl.of memory_Memory_Load_en (Load_sp (i : Int) hi64 hokB R2 hT2 H2) ?_
    rintro _ w ⟨rfl, H2⟩
    have H := (back2 H2).hideM
    clear HM R2 hT2 m2 H2 back2
    rw [e1, e2]
    (with_reducible (repeat (first | refine pu_st ?_ | refine bn_st ?_)))
    refine condNF rfl ?_
    (with_reducible (repeat (first | refine pu_st ?_ | refine bn_st ?_)))
    refine condNF rfl ?_
    (with_reducible (repeat (first | refine pu_st ?_ | refine bn_st ?_)))
    refine condNF rfl ?_
    (with_reducible (repeat (first | refine pu_st ?_ | refine bn_st ?_)))
    refine condNF rfl ?_
    refine pu_succ (by omega) ?_
    exact ⟨⟨i + 1, by omega, rfl, ((H.get Has.n1).get Has.n2)⟩, by simp [intOf]; omega⟩
  · refine Cl.of (by kernel_rfl) (sanity_sp hT1 H) ?_
    rintro _ w ⟨rfl, H⟩
    exact ⟨rfl, (back H.tail.tail.tail).tail⟩

end

end Go.Proofs.YtlolaieolgmdnaaDoor
