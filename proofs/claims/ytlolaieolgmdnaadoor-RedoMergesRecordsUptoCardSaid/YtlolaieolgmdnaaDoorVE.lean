/-
  The law's walk: RedoMergesRecords.
-/
import Derived.Test.YtlolaieolgmdnaaDoorVS

import Derived.Test.YtlolaieolgmdnaaDoorPlainS

namespace Go.Proofs.YtlolaieolgmdnaaDoor

open Go.RowKit
set_option linter.unusedVariables false
set_option linter.unusedSimpArgs false
set_option maxRecDepth 10000

/-- Records applied one after the other. -/
def appliesM (M : MemS) (rs : List Rec) : MemS := rs.foldl (fun M r => (applyM M r.2).2) M

theorem allE_snoc (rs : List Rec) (r : Rec) : allE (rs ++ [r]) = allE rs ++ r.2 := by unfold allE; simp

theorem appliesM_is : ∀ (rs : List Rec) {M : MemS} {Z : List En}, M.good → (∀ z ∈ Z, CanPut M z) → (∀ x ∈ allE rs, x ∈ Z) →
    (appliesM M rs).good ∧ (∀ z ∈ Z, CanPut (appliesM M rs) z) ∧ (appliesM M rs).L.length = M.L.length ∧ ∀ a, loadM (appliesM M rs).L a = match lastE (allE rs) a with | some v => (v, 0) | none => loadM M.L a
  | [], M, Z, hM, hZ, h => ⟨hM, hZ, rfl, fun a => rfl⟩
  | r :: rs, M, Z, hM, hZ, h => by
    have h1 : ∀ x ∈ r.2, x ∈ Z := fun x hx => h x (by simp [allE, hx])
    have hc : checkM M r.2 = 0 := check_of_can fun x hx => hZ x (h1 x hx)
    obtain ⟨i1, i2, i3, i4⟩ := appliesM_is rs (M := (applyM M r.2).2) (Z := Z) (hM.apply r.2) (fun z hz => (hZ z hz).apply hM r.2) fun x hx => h x (by
      simp only [allE, List.map_cons, List.flatten_cons, List.mem_append]
      exact .inr hx)
    refine ⟨i1, i2, i3.trans (applyM_len M r.2), fun a => ?_⟩
    have e : allE (r :: rs) = r.2 ++ allE rs := rfl
    show loadM (appliesM (applyM M r.2).2 rs).L a = _
    rw [i4, e, lastE_append, load_apply hM hc]
    cases lastE (allE rs) a <;> rfl

theorem appliesM_snoc (M : MemS) (rs : List Rec) (r : Rec) : appliesM M (rs ++ [r]) = (applyM (appliesM M rs) r.2).2 := by unfold appliesM; rw [List.foldl_append]; rfl

theorem appliesM_okN : ∀ (rs : List Rec) {M : MemS} {N : Nat}, M.okN N → (appliesM M rs).okN (N + 2 * (allE rs).length + rs.length)
  | [], M, N, h => h
  | r :: rs, M, N, h => by
    have := appliesM_okN rs (h.apply r.2)
    refine MemS.okN.mono (M := appliesM M (r :: rs)) this ?_
    simp [allE]; omega

section

variable {c : Cx} {Γ Δ Ω : List HProp} {w : World} {m r : Nat} {M : MemS} {lv ev : Value} {ps : List Value} {mb ck : Nat} {es : Array MapEntry} {E S : List En}

theorem allE_take_le {rs : List (Rec × Value)} {i : Nat} {x : Rec × Value} (hx : rs[i]? = some x) : (allE ((rs.take i).map (·.1))).length + x.1.2.length ≤ (allE (rs.map (·.1))).length := by
  have hlt := (List.getElem?_eq_some_iff.1 hx).1
  have h1 : rs = rs.take i ++ x :: rs.drop (i + 1) := by
    have := (List.take_append_drop i rs).symm
    rw [List.drop_eq_getElem_cons hlt] at this
    have hxe := (List.getElem?_eq_some_iff.1 hx).2
    rwa [hxe] at this
  conv => rhs; rw [h1]
  simp [allE]

theorem All_sp {u : Value} {rs : List (Rec × Value)} (hn : rs.length ≤ 1100000) (hE : (allE (rs.map (·.1))).length ≤ 1100000) (hu : SlR c u rs.length ((rs.map recC).flatten))
    (hr : ∀ r ∈ rs, SlR c r.2 r.1.2.length ((r.1.2.map enC).flatten)) (H : Sat c Γ w) :
    Calls Tryd.prog 16 #[u] w (Rt fun u' w' => Sat c (ownS 34 2 u' (allE (rs.map (·.1))).length (((allE (rs.map (·.1))).map enC).flatten) :: Γ) w') := by
  obtain ⟨ad, cap, rfl, -⟩ := hu H
  refine alumref10_All_ok ?_
  unfold alumref10_All_w
  refine ⟨fun u v w => ∃ i : Nat, i ≤ rs.length ∧ v = .int .i64 (i : Int) ∧ Sat c (ownS 34 2 u (allE ((rs.take i).map (·.1))).length (((allE ((rs.take i).map (·.1))).map enC).flatten) :: Γ) w, fun _ v _ => rs.length - (intOf v).toNat, ⟨0, Nat.zero_le _, rfl, Sat.nilS none H⟩, ?_⟩
  intros
  rename_i w hI
  obtain ⟨i, hi, rfl, H⟩ := hI
  (with_reducible (repeat (first | refine pu_st ?_ | refine bn_st ?_)))
  refine condD (fun hlt => ?_) (fun hlt => ?_)
  · have hlt : i < rs.length := by omega
    obtain ⟨x, hx⟩ : ∃ x, rs[i]? = some x := ⟨rs[i]'(by omega), List.getElem?_eq_getElem _⟩
    obtain ⟨b1, o1, cap1, e, -, hc⟩ := slAt.elem (enc := recC) recC_len (hu H) hx
    cases e
    have hle := allE_take_le hx
    refine pu_indexN hlt ?_
    (with_reducible (repeat (first | refine pu_st ?_ | refine bn_st ?_)))
    (refine bn_load1 (hc 1 _ rfl) ?_; (with_reducible (repeat (first | refine pu_st ?_ | refine bn_st ?_))))
    refine bn_appendR H Has.n0 (hr x (List.mem_of_getElem? hx) H) (rows_length enC 2 enC_len _) (all_one_rows enC _ enC_one) (by omega) (by unfold maxLen; omega) (by omega) fun lv' w H => ?_
    refine pu_succ (by omega) ?_
    refine ⟨⟨i + 1, by omega, rfl, ?_⟩, by simp [intOf]; omega⟩
    rw [take_succ_of hx]
    simpa [allE] using H
  · have : i = rs.length := by omega
    subst this
    rw [List.take_length] at H
    exact H

theorem merges_sp {u t : Value} {l : List Im} {rs : List (Rec × Value)} (hn : l.length ≤ 9223372036854775807) (hu : SlR c u l.length ((l.map imgC).flatten)) (ht : SlR c t rs.length ((rs.map recC).flatten))
    (hrn : rs.length ≤ 1100000) (hrE : (allE (rs.map (·.1))).length ≤ 1100000) (hr : ∀ r ∈ rs, SlR c r.2 r.1.2.length ((r.1.2.map enC).flatten))
    (hEi : ∀ x ∈ allE (rs.map (·.1)), i64 x.1) (hT : TabC c) (H : Sat c Γ w) :
    Calls Tryd.prog 4 #[u, t] w (Rt (Yes c Γ (.bool true))) := by
  refine alumlaw10_RedoMergesRecords_ok ?_
  unfold alumlaw10_RedoMergesRecords_w
  obtain ⟨ua, ucap, hue, -⟩ := hu H
  obtain ⟨ta, tcap, hte, -⟩ := ht H
  refine Cl.of memory_From_en (From_sp hn hu H) ?_
  rintro t16 w h
  have hall : ∀ {Γ : List HProp} {w : World}, Sat c Γ w → _ := fun {Γ w} H => All_sp (c := c) (Γ := Γ) (w := w) hrn hrE ht hr H
  rcases h with ⟨hri, rfl, H⟩ | ⟨hri, m, rfl, H⟩
  · refine Cl.of (by kernel_rfl) (hall H) ?_
    rintro av w H
    (with_reducible (repeat (first | refine pu_st ?_ | refine bn_st ?_)))
    refine condB (fun _ => ?_) (fun h => by cases h)
    refine Cl.of (by kernel_rfl) (sanity_sp hT H) ?_
    rintro _ w ⟨rfl, H⟩
    exact ⟨rfl, H.tail⟩
  refine Cl.of (by kernel_rfl) (hall H) ?_
  rintro av w H
  subst hue
  subst hte
  have hrec := fun (i : Nat) (x : Rec × Value) => allE_take_le (rs := rs) (i := i) (x := x)
  (with_reducible (repeat (first | refine pu_st ?_ | refine bn_st ?_)))
  refine condB (fun h => by cases h) (fun _ => ?_)
  (with_reducible (repeat (first | refine pu_st ?_ | refine bn_st ?_)))
  refine condD (fun h12 => ?_) (fun h12 => ?_)
  · refine Cl.of (by kernel_rfl) (sanity_sp hT H) ?_
    rintro _ w ⟨rfl, H⟩
    exact ⟨rfl, H.tail.tail⟩
  (with_reducible (repeat (first | refine pu_st ?_ | refine bn_st ?_)))
  refine condD (fun h10 => ?_) (fun h10 => ?_)
  · refine Cl.of (by kernel_rfl) (sanity_sp hT H) ?_
    rintro _ w ⟨rfl, H⟩
    exact ⟨rfl, H.tail.tail⟩
  obtain ⟨aa, acap, rfl, -⟩ := H.slAt Has.n0
  have hallE : allE (rs.map (·.1)) = allE (rs.map (·.1)) := rfl
  (with_reducible (repeat (first | refine pu_st ?_ | refine bn_st ?_)))
  refine condD (fun h40 => ?_) (fun h40 => ?_)
  · refine Cl.of (by kernel_rfl) (sanity_sp hT H) ?_
    rintro _ w ⟨rfl, H⟩
    exact ⟨rfl, H.tail.tail⟩
  have hlen : l.length ≤ 12 := by omega
  have hokN : MemS.okN ⟨l.map lineOf, 0, []⟩ 0 := ⟨by simp; omega, fun y hy => by
    obtain ⟨x, _, rfl⟩ := List.mem_map.1 hy
    exact ⟨fun s hs => (by cases hs), by simp [lineOf], by simp [lineOf], by simp [lineOf]⟩, by simp⟩
  have hgood : MemS.good ⟨l.map lineOf, 0, []⟩ := ⟨fun y hy => by
    obtain ⟨x, hx, rfl⟩ := List.mem_map.1 hy
    exact ⟨⟨right_line hri hx, fun h => absurd rfl h, fun s hs => (by cases hs)⟩, by simp [lineOf], by simp [lineOf]⟩⟩
  generalize (⟨l.map lineOf, 0, []⟩ : MemS) = M0 at *
  have hok0 := hokN.ok (by omega)
  have hE40 : (allE (rs.map (·.1))).length ≤ 40 := by omega
  have hmem : ∀ r ∈ rs, ∀ x ∈ r.1.2, x ∈ allE (rs.map (·.1)) := fun r hr x hx => by
    unfold allE
    exact List.mem_flatten.2 ⟨r.1.2, List.mem_map.2 ⟨r.1, List.mem_map.2 ⟨r, hr, rfl⟩, rfl⟩, hx⟩
  -- the check
  obtain ⟨c2, A2, m2, H2, back2⟩ := H.lent
  have hT2 : TabC c2 := fun H => hT (back2 H)
  obtain ⟨mb, es, ck, HM⟩ := H2.nameM
  obtain ⟨c1, lv, ps, ev, R, hT1, m1, H1, back⟩ := HM.lentM hT2
  refine Cl.of redo_Check_en (Check_sp (by omega) hEi (m1 _ A2).slR R hT1 H1) ?_
  rintro _ w ⟨rfl, H1⟩
  (with_reducible (repeat (first | refine pu_st ?_ | refine bn_st ?_)))
  refine condND (fun h => ?_) (fun hchk => ?_)
  · refine Cl.of (by kernel_rfl) (sanity_sp hT1 H1) ?_
    rintro _ w ⟨rfl, H1⟩
    exact ⟨rfl, (back2 (back H1)).tail.tail⟩
  have hcan := check_can hchk
  refine Cl.of memory_Memory_Copy_en (Copy_sp hok0 R H1) ?_
  rintro _ w ⟨a, rfl, H1⟩
  refine Cl.of memory_Memory_Copy_en (Copy_sp hok0 R H1) ?_
  rintro _ w ⟨b, rfl, H1⟩
  have HH := (back2 (back H1)).tail.tail
  clear H1 H2 HM R back back2 A2 m1 m2 hT1 hT2
  (with_reducible (repeat (first | refine pu_st ?_ | refine bn_st ?_)))
  refine condB (fun h => by cases h) (fun _ => ?_)
  (with_reducible (repeat (first | refine pu_st ?_ | refine bn_st ?_)))
  refine condB (fun h => by cases h) (fun _ => ?_)
  (with_reducible (repeat (first | refine pu_st ?_ | refine bn_st ?_)))
  generalize hL : rs.map (·.1) = L at *
  refine ⟨fun v1 w => ∃ i : Nat, i ≤ rs.length ∧ v1 = .int .i64 (i : Int) ∧ Sat c (MemH a (appliesM M0 (L.take i)) :: MemH b M0 :: Γ) w, fun v _ => rs.length - (intOf v).toNat, ⟨0, Nat.zero_le _, rfl, HH.get Has.n1⟩, ?_⟩
  intros
  rename_i w hI
  obtain ⟨i, hi, rfl, H⟩ := hI
  (with_reducible (repeat (first | refine pu_st ?_ | refine bn_st ?_)))
  refine condD (fun hlt => ?_) (fun hlt => ?_)
  · have hlt : i < rs.length := by omega
    obtain ⟨x, hx⟩ : ∃ x, rs[i]? = some x := ⟨rs[i]'(by omega), List.getElem?_eq_getElem _⟩
    have hxm := List.mem_of_getElem? hx
    have hxL : L[i]? = some x.1 := by rw [← hL, List.getElem?_map, hx]; rfl
    obtain ⟨b1, o1, cap1, e, -, hc⟩ := slAt.elem (enc := recC) recC_len (ht H) hx
    cases e
    have hx1 : x.2.oneCell' = true := by obtain ⟨a, cap, e, -⟩ := hr x hxm H; rw [e]; rfl
    refine pu_indexN hlt ?_
    refine bn_loadN hc rfl ?_
    refine bn_alloc H fun b5 w H => ?_
    refine bn_storeN (vs := recC x) H Has.n0 rfl (by simp [recC]) (recC_one hx1) fun w H => ?_
    have H := H.get Has.n0
    (with_reducible (repeat (first | refine pu_st ?_ | refine bn_st ?_)))
    refine bn_load1 (H.cell (cs := recC x) (t := 44) Has.n0 rfl) ?_
    have hle := hrec i x hx
    have htk : (rs.take i).map (·.1) = L.take i := by rw [← hL, List.map_take]
    rw [htk] at hle
    have hN := appliesM_okN (L.take i) hokN
    have hil : (L.take i).length ≤ 10 := by rw [List.length_take]; omega
    obtain ⟨i1, i2, -, -⟩ := appliesM_is (L.take i) hgood hcan fun z hz => by
      rw [← List.take_append_drop i L]
      unfold allE at hz ⊢
      rw [List.map_append, List.flatten_append, List.mem_append]
      exact .inl hz
    refine Cl.of redo_Apply_en (Apply_sp hN (by omega) (fun z hz => hEi z (hmem x hxm z hz)) (hr x hxm) hT (H.get Has.n1)) ?_
    rintro _ w ⟨rfl, H⟩
    rw [applyM_ok (check_of_can fun z hz => i2 z (hmem x hxm z hz))]
    (with_reducible (repeat (first | refine pu_st ?_ | refine bn_st ?_)))
    refine condND (fun h => absurd rfl h) (fun _ => ?_)
    refine pu_succ (by omega) ?_
    refine ⟨⟨i + 1, by omega, rfl, ?_⟩, by simp [intOf]; omega⟩
    rw [take_succ_of hxL, appliesM_snoc]
    exact (H.get Has.n1).tail
  have : i = rs.length := by omega
  subst this
  have hLl : L.length = rs.length := by rw [← hL, List.length_map]
  rw [← hLl, List.take_length] at H
  have hml := mergedE_len (allE L)
  have hmD : ∀ x ∈ mergedE (allE L), i64 x.1 := fun x hx => hEi x (merged_sub hx)
  refine Cl.of redo_Merge_en (Merge_sp (rs := rs) (by omega) (by rw [hL]; omega) (by rw [hL]; exact hEi) ht hr H) ?_
  rintro mv w H
  rw [hL] at H
  obtain ⟨c2, A2, m2, H2, back2⟩ := H.lent
  refine Cl.of redo_Apply_en (Apply_sp hokN (by omega) hmD A2.slR (fun H => hT (back2 H)) (H2.get Has.n1)) ?_
  rintro _ w ⟨rfl, H2⟩
  have H := back2 H2
  clear H2 back2 m2 A2
  have hcm : checkM M0 (mergedE (allE L)) = 0 := check_sub hchk fun x hx => merged_sub hx
  rw [applyM_ok hcm]
  obtain ⟨i1, i2, i3, i4⟩ := appliesM_is L hgood hcan fun z hz => hz
  have hNA := appliesM_okN L hokN
  have hokA := hNA.ok (by omega)
  have hokB := (hokN.apply (mergedE (allE L))).ok (by omega)
  have hseen : (applyM M0 (mergedE (allE L))).2.L.map seenC = (appliesM M0 L).L.map seenC := seen_of_loads ((applyM_len _ _).trans i3.symm) fun a => by
    rw [i4, load_apply hgood hcm, lastE_merged]
    cases lastE (allE L) a <;> rfl
  generalize (applyM M0 (mergedE (allE L))).2 = B at H hokB hseen
  generalize appliesM M0 L = A at H hokA hseen
  (with_reducible (repeat (first | refine pu_st ?_ | refine bn_st ?_)))
  refine condND (fun h => absurd rfl h) (fun _ => ?_)
  refine Cl.of (by kernel_rfl) (sanity_sp hT H) ?_
  rintro _ w ⟨rfl, H⟩
  refine condB (fun _ => ?_) (fun h => by cases h)
  obtain ⟨c1, A1, m1, H1, back1⟩ := (H.get Has.n1).lent
  obtain ⟨c2, A2, m2, H2, back2⟩ := (H1.get Has.n1).lent
  have A1 := m2 _ A1
  have hT2 : TabC c2 := fun H => hT (back1 (back2 H))
  obtain ⟨lv1, ps1, mb1, es1, ck1, ev1, R1⟩ := A1.mem
  obtain ⟨lv2, ps2, mb2, es2, ck2, ev2, R2⟩ := A2.mem
  refine Cl.of memory_Memory_Seen_en (Seen_sp hokA R2 hT2 H2) ?_
  rintro s1 w H
  refine Cl.of memory_Memory_Seen_en (Seen_sp hokB R1 hT2 H) ?_
  rintro s2 w H
  refine Cl.of alumref04_SameSeen_en (SameSeenOwn_sp hseen.symm trivial (by have := hokA.lines; omega) (H.get Has.n1)) ?_
  rintro _ w ⟨rfl, H⟩
  have H := (back1 (back2 H)).get Has.n2
  clear R1 R2 hT2 A1 A2 H1 H2 back1 back2 m1 m2
  refine condB (fun _ => ?_) (fun h => by cases h)
  obtain ⟨am, capm, rfl, -⟩ := H.slAt Has.n0
  obtain ⟨c3, A3, m3, H3, back3⟩ := H.lent
  refine pu_build (cs := recC ((0, mergedE (allE L)), .slice am (mergedE (allE L)).length capm)) (by kernel_rfl) ?_
  refine bn_one (cs := recC ((0, mergedE (allE L)), .slice am (mergedE (allE L)).length capm)) rfl (recC_len _) (by decide) H3 fun rv w H3 => ?_
  obtain ⟨c4, A4, m4, H4, back4⟩ := H3.lent
  have hrs : SlR c4 rv ([((0, mergedE (allE L)), .slice am (mergedE (allE L)).length capm)] : List (Rec × Value)).length ((([((0, mergedE (allE L)), .slice am (mergedE (allE L)).length capm)] : List (Rec × Value)).map recC).flatten) := fun H => by
    have := A4.slR H
    simpa using this
  have hae : allE (([((0, mergedE (allE L)), .slice am (mergedE (allE L)).length capm)] : List (Rec × Value)).map (·.1)) = mergedE (allE L) := by simp [allE]
  refine Cl.of redo_Merge_en (Merge_sp (by simp) (by rw [hae]; omega) (by rw [hae]; exact hmD) hrs (fun r hr => by
    rw [List.mem_singleton] at hr
    subst hr
    exact (m4 _ A3).slR) H4) ?_
  rintro mv2 w H4
  rw [hae] at H4
  have H := back3 (back4 H4)
  have hml2 := mergedE_len (mergedE (allE L))
  refine Cl.of alumref10_Same_en (SameOwn_sp (by omega) (H.pull (ps := [_, _]) (.cons Has.n2 (.cons Has.n0 .nil)))) ?_
  rintro _ w ⟨rfl, H⟩
  refine ⟨?_, H.tail.tail.tail.tail.tail⟩
  rw [mergedE_idem]; simp

end

end Go.Proofs.YtlolaieolgmdnaaDoor
