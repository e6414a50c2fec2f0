/-
  The law's walk: RedoAppliesAsSpecified.
-/
import Derived.Test.YtlolaieolgmdnaaGreatDoorVS
namespace Go.Proofs.YtlolaieolgmdnaaGreatDoor
open Go.RowKit
set_option linter.unusedVariables false
set_option linter.unusedSimpArgs false
set_option maxRecDepth 10000

section
variable {c : Cx} {Γ Δ Ω : List HProp} {w : World} {m r : Nat} {M : MemS} {lv ev : Value} {ps : List Value} {mb ck : Nat} {es : Array MapEntry} {E S : List En}

theorem applies_sp {u s t : Value} {l : List Im} (hn : l.length ≤ 9223372036854775807) (hu : SlR c u l.length ((l.map imgC).flatten)) (hs : SlR c s S.length ((S.map enC).flatten)) (ht : SlR c t E.length ((E.map enC).flatten))
    (hSi : ∀ x ∈ S, i64 x.1) (hEi : ∀ x ∈ E, i64 x.1) (hT : TabC c) (H : Sat c Γ w) :
    Calls Tryz.prog 4 #[u, s, t] w (Rt (Yes c Γ (.bool true))) := by
  refine alumlaw10_RedoAppliesAsSpecified_ok ?_
  unfold alumlaw10_RedoAppliesAsSpecified_w
  obtain ⟨ua, ucap, hue, -⟩ := hu H
  obtain ⟨sa, scap, hse, -⟩ := hs H
  obtain ⟨ta, tcap, hte, -⟩ := ht H
  refine Cl.of memory_From_en (From_sp hn hu H) ?_
  rintro t16 w h
  rcases h with ⟨hr, rfl, H⟩ | ⟨hr, m, rfl, H⟩
  · (with_reducible (repeat (first | refine pu_st ?_ | refine bn_st ?_)))
    refine condB (fun _ => ?_) (fun h => by cases h)
    refine Cl.of (by kernel_rfl) (sanity_sp hT H) ?_
    rintro _ w ⟨rfl, H⟩
    exact ⟨rfl, H⟩
  subst hue
  subst hse
  (with_reducible (repeat (first | refine pu_st ?_ | refine bn_st ?_)))
  refine condB (fun h => by cases h) (fun _ => ?_)
  (with_reducible (repeat (first | refine pu_st ?_ | refine bn_st ?_)))
  refine condD (fun h12 => ?_) (fun h12 => ?_)
  · refine Cl.of (by kernel_rfl) (sanity_sp hT H) ?_
    rintro _ w ⟨rfl, H⟩
    exact ⟨rfl, H.tail⟩
  refine Cl.of (by kernel_rfl) (few_sp ht H) ?_
  rintro _ w ⟨rfl, H⟩
  (with_reducible (repeat (first | refine pu_st ?_ | refine bn_st ?_)))
  refine condND (fun h60 => ?_) (fun h60 => ?_)
  · refine Cl.of (by kernel_rfl) (sanity_sp hT H) ?_
    rintro _ w ⟨rfl, H⟩
    exact ⟨rfl, H.tail⟩
  (with_reducible (repeat (first | refine pu_st ?_ | refine bn_st ?_)))
  refine condD (fun h20 => ?_) (fun h20 => ?_)
  · refine Cl.of (by kernel_rfl) (sanity_sp hT H) ?_
    rintro _ w ⟨rfl, H⟩
    exact ⟨rfl, H.tail⟩
  refine Cl.of alumref04_From_en (rFrom_sp hn hu H) ?_
  rintro _ w ⟨r, rfl, H⟩
  rw [hr, if_pos rfl] at H
  have hlen : l.length ≤ 12 := by omega
  have hokN : MemS.okN ⟨l.map lineOf, 0, []⟩ 0 := ⟨by simp; omega, fun y hy => by
    obtain ⟨x, _, rfl⟩ := List.mem_map.1 hy
    exact ⟨fun s hs => (by cases hs), by simp [lineOf], by simp [lineOf], by simp [lineOf]⟩, by simp⟩
  have hgood : MemS.good ⟨l.map lineOf, 0, []⟩ := ⟨fun y hy => by
    obtain ⟨x, hx, rfl⟩ := List.mem_map.1 hy
    exact ⟨⟨right_line hr hx, fun h => absurd rfl h, fun s hs => (by cases hs)⟩, by simp [lineOf], by simp [lineOf]⟩⟩
  generalize (⟨l.map lineOf, 0, []⟩ : MemS) = M0 at *
  (with_reducible (repeat (first | refine pu_st ?_ | refine bn_st ?_)))
  refine ⟨fun v w => ∃ i : Nat, i ≤ S.length ∧ v = .int .i64 (i : Int) ∧ Sat c (RMemH r (storesM M0 (S.take i)) :: MemH m (storesM M0 (S.take i)) :: Γ) w, fun v _ => S.length - (intOf v).toNat, ⟨0, Nat.zero_le _, rfl, H⟩, ?_⟩
  intros
  rename_i w hI
  obtain ⟨i, hi, rfl, H⟩ := hI
  (with_reducible (repeat (first | refine pu_st ?_ | refine bn_st ?_)))
  refine condD (fun hlt => ?_) (fun hlt => ?_)
  · have hlt : i < S.length := by omega
    obtain ⟨x, hx⟩ : ∃ x, S[i]? = some x := ⟨S[i]'(by omega), List.getElem?_eq_getElem _⟩
    obtain ⟨b1, o1, cap1, e, hc⟩ := hs.en H hx
    cases e
    refine pu_indexN hlt ?_
    refine bn_loadN (hc H) rfl ?_
    refine bn_alloc H fun b5 w H => ?_
    refine bn_storeN (vs := enC x) H Has.n0 rfl (by simp [enC]) (enC_one x) fun w H => ?_
    have hok := (hokN.stores (S.take i)).ok (by rw [List.length_take]; omega)
    (with_reducible (repeat (first | refine pu_st ?_ | refine bn_st ?_)))
    refine bn_load1 (H.cell (cs := enC x) (t := 58) Has.n0 rfl) ?_
    (with_reducible (repeat (first | refine pu_st ?_ | refine bn_st ?_)))
    refine bn_load1 (H.cell (cs := enC x) (t := 58) Has.n0 rfl) ?_
    refine Cl.of memory_Memory_Store_en (Store_sp x.1 x.2 (hSi x (List.mem_of_getElem? hx)) (fun y hy => (hok.line y hy).few) hok.evs hT (H.get Has.n2)) ?_
    rintro _ w ⟨-, H⟩
    (with_reducible (repeat (first | refine pu_st ?_ | refine bn_st ?_)))
    refine bn_load1 (H.cell (cs := enC x) (t := 58) Has.n1 rfl) ?_
    (with_reducible (repeat (first | refine pu_st ?_ | refine bn_st ?_)))
    refine bn_load1 (H.cell (cs := enC x) (t := 58) Has.n1 rfl) ?_
    refine Cl.of alumref04_Memory_Store_en (rStore_sp x.1 x.2 (hSi x (List.mem_of_getElem? hx)) (fun y hy => (hok.line y hy).few) hok.evs hT (H.get Has.n2)) ?_
    rintro _ w ⟨-, H⟩
    refine pu_succ (by omega) ?_
    refine ⟨⟨i + 1, by omega, rfl, ?_⟩, by simp [intOf]; omega⟩
    rw [take_succ_of hx, storesM_snoc]
    exact (H.get Has.n2).tail
  have : i = S.length := by omega
  subst this
  rw [List.take_length] at H
  have hN := hokN.stores S
  have hG := hgood.stores S
  clear hokN hgood
  generalize storesM M0 S = M at *
  have hok := hN.ok (by omega)
  subst hte
  -- the copy
  have HM := H.get Has.n1
  obtain ⟨mb, es, ck, HM⟩ := HM.nameM
  obtain ⟨c1, lv, ps, ev, R, hT1, m1, H1, back⟩ := HM.lentM hT
  refine Cl.of memory_Memory_Copy_en (Copy_sp hok R H1) ?_
  rintro _ w ⟨m2, rfl, H1⟩
  have HM := (back H1).hideM
  clear R H1 back
  (with_reducible (repeat (first | refine pu_st ?_ | refine bn_st ?_)))
  refine condB (fun h => by cases h) (fun _ => ?_)
  -- the specification's check
  have H := HM.get Has.n2
  obtain ⟨c1, lv, ps, ev, R, hT1, m1, H1, back⟩ := H.lentR hT
  refine Cl.of alumref10_Check_en (rCheckE_sp (by omega) hEi (fun H => ht (back H)) R hT1 H1) ?_
  rintro _ w ⟨rfl, H1⟩
  have H := back H1
  clear R H1 back
  -- the check
  obtain ⟨mb, es, ck, HM⟩ := (H.get Has.n1).nameM
  obtain ⟨c1, lv, ps, ev, R, hT1, m1, H1, back⟩ := HM.lentM hT
  refine Cl.of redo_Check_en (Check_sp (by omega) hEi (fun H => ht (back H)) R hT1 H1) ?_
  rintro _ w ⟨rfl, H1⟩
  have H := (back H1).hideM
  clear R H1 back HM
  (with_reducible (repeat (first | refine pu_st ?_ | refine bn_st ?_)))
  refine condND (fun h => absurd rfl h) (fun _ => ?_)
  refine Cl.of redo_Apply_en (Apply_sp hN (by omega) hEi ht hT H) ?_
  rintro _ w ⟨rfl, H⟩
  have h1 : (applyM M E).1 = checkM M E := by unfold applyM; split; rename_i h; exact h.symm; rfl
  rw [h1]
  (with_reducible (repeat (first | refine pu_st ?_ | refine bn_st ?_)))
  refine condND (fun h => absurd rfl h) (fun _ => ?_)
  (with_reducible (repeat (first | refine pu_st ?_ | refine bn_st ?_)))
  refine condND (fun h => ?_) (fun h => ?_)
  · have h2 : (applyM M E).2 = M := by unfold applyM; rw [if_neg h]
    rw [h2] at H
    refine Cl.of (by kernel_rfl) (sanity_sp hT H) ?_
    rintro _ w ⟨rfl, H⟩
    refine condB (fun _ => ?_) (fun h => by cases h)
    obtain ⟨c1, A1, m1, H1, back1⟩ := H.lent
    obtain ⟨c2, A2, m2', H2, back2⟩ := (H1.get Has.n1).lent
    have A1 := m2' _ A1
    have hT2 : TabC c2 := fun H => hT (back1 (back2 H))
    obtain ⟨lv1, ps1, mb1, es1, ck1, ev1, R1⟩ := A1.mem
    obtain ⟨lv2, ps2, mb2, es2, ck2, ev2, R2⟩ := A2.mem
    refine Cl.of memory_Memory_Image_en (Image_sp hok R1 H2) ?_
    rintro i1 w H
    refine Cl.of memory_Memory_Image_en (Image_sp hok R2 H) ?_
    rintro i2 w H
    refine Cl.of alumref04_SameImage_en (SameImOwn_sp (by have := hN.lines; omega) (H.get Has.n1)) ?_
    rintro _ w ⟨rfl, H⟩
    refine condB (fun _ => ?_) (fun h => by cases h)
    refine Cl.of memory_Memory_Seen_en (Seen_sp hok R1 hT2 H) ?_
    rintro s1 w H
    refine Cl.of memory_Memory_Seen_en (Seen_sp hok R2 hT2 H) ?_
    rintro s2 w H
    refine Cl.of alumref04_SameSeen_en (SameSeenOwn_sp rfl trivial (by have := hN.lines; omega) (H.get Has.n1)) ?_
    rintro _ w ⟨rfl, H⟩
    refine condB (fun _ => ?_) (fun h => by cases h)
    refine Cl.of memory_Memory_Events_en (Events_sp hok R1 H) ?_
    rintro e1 w H
    obtain ⟨ae1, ce1, rfl, -⟩ := H.slAt Has.n0
    (with_reducible (repeat (first | refine pu_st ?_ | refine bn_st ?_)))
    refine Cl.of memory_Memory_Events_en (Events_sp hok R2 H) ?_
    rintro e2 w H
    obtain ⟨ae2, ce2, rfl, -⟩ := H.slAt Has.n0
    (with_reducible (repeat (first | refine pu_st ?_ | refine bn_st ?_)))
    refine ⟨by simp, ?_⟩
    have H := back1 (back2 H.tail.tail)
    exact H.tail.tail.tail
  · have hN' := hN.apply E
    have hok' := hN'.ok (by omega)
    refine Cl.of alumref10_Apply_en (rApply_sp hN hG.sound (by omega) hEi ht hT (H.get Has.n1)) ?_
    rintro _ w ⟨-, H⟩
    rw [apply_same] at H
    have hcan := check_can h
    have hpend := fun (n : Nat) (hn : (n : Int) ∈ linesE E) (y : LineS) => apply_pend h hn (y := y)
    have hdur := fun (a v : Int) => load_durable hG h (a := a) (v := v)
    generalize (applyM M E).2 = M' at *
    obtain ⟨c1, A1, m1, H1, back1⟩ := H.lent
    obtain ⟨c2, A2, m2', H2, back2⟩ := H1.lent
    have A1 := m2' _ A1
    have hT2 : TabC c2 := fun H => hT (back1 (back2 H))
    obtain ⟨lv1, ps1, ev1, R1⟩ := A1.rmem
    obtain ⟨lv2, ps2, mb2, es2, ck2, ev2, R2⟩ := A2.mem
    refine Cl.of memory_Memory_Seen_en (Seen_sp hok' R2 hT2 H2) ?_
    rintro s1 w H
    refine Cl.of alumref04_Memory_Seen_en (rSeen_sp hok' R1 hT2 H) ?_
    rintro s2 w H
    refine Cl.of alumref04_SameSeen_en (SameSeenOwn_sp rfl trivial (by have := hN'.lines; omega) (H.get Has.n1)) ?_
    rintro _ w ⟨rfl, H⟩
    (with_reducible (repeat (first | refine pu_st ?_ | refine bn_st ?_)))
    refine condB (fun h => by cases h) (fun _ => ?_)
    have H := back1 (back2 H)
    clear R1 R2 hT2 A1 A2 H1 H2 back1 back2
    refine Cl.of alumref10_Lines_en (rLines_sp (by omega) hEi ht H) ?_
    rintro kv w H
    rw [lines_same] at H
    obtain ⟨ak, capk, rfl, -⟩ := H.slAt Has.n0
    have hll := linesE_len E
    (with_reducible (repeat (first | refine pu_st ?_ | refine bn_st ?_)))
    refine ⟨fun v w => ∃ i : Nat, i ≤ (linesE E).length ∧ v = .int .i64 (i : Int) ∧ Sat c (MemH m M' :: ownS 3 1 (.slice ak (linesE E).length capk) (linesE E).length (((linesE E).map intC).flatten) :: RMemH r M' :: MemH m2 M :: Γ) w, fun v _ => (linesE E).length - (intOf v).toNat, ⟨0, Nat.zero_le _, rfl, H.get Has.n2⟩, ?_⟩
    intros
    rename_i w hI
    obtain ⟨i, hi, rfl, H⟩ := hI
    (with_reducible (repeat (first | refine pu_st ?_ | refine bn_st ?_)))
    refine condD (fun hlt => ?_) (fun hlt => ?_)
    · have hlt : i < (linesE E).length := by omega
      obtain ⟨k, hk⟩ : ∃ k, (linesE E)[i]? = some k := ⟨(linesE E)[i]'(by omega), List.getElem?_eq_getElem _⟩
      obtain ⟨b1, o1, cap1, e, -, hc⟩ := slAt.elem (enc := intC) (fun _ => rfl) (H.slAt Has.n1) hk
      cases e
      refine pu_indexN hlt ?_
      refine bn_load1 (hc 0 _ rfl) ?_
      obtain ⟨mb, es, ck, H⟩ := H.nameM
      obtain ⟨c1, lv, ps, ev, R, hT1, m1, H1, back⟩ := H.lentM hT
      refine Cl.of memory_Memory_Pending_en (Pending_sp k hok' R H1) ?_
      rintro pv w ⟨p, hp, H1⟩
      have hp0 : p = [] := by
        have hkm : k ∈ linesE E := List.mem_of_getElem? hk
        obtain ⟨x, hx, hxk⟩ := lines_mem hkm
        rw [line_of (hcan x hx).1] at hxk
        rw [hp, if_pos (by omega)]
        cases hy : M'.L[k.toNat]? with
        | none => rfl
        | some y => exact hpend k.toNat (by rw [show ((k.toNat : Nat) : Int) = k by omega]; exact hkm) y hy
      subst hp0
      obtain ⟨ap, cp, rfl, -⟩ := H1.slAt Has.n0
      (with_reducible (repeat (first | refine pu_st ?_ | refine bn_st ?_)))
      refine condND (fun h => absurd rfl h) (fun _ => ?_)
      refine pu_succ (by omega) ?_
      refine ⟨⟨i + 1, by omega, rfl, ?_⟩, by simp [intOf]; omega⟩
      exact (back H1.tail).hideM
    obtain ⟨mb, es, ck, H⟩ := H.nameM
    refine Cl.of memory_Memory_Crash_en (Crash_sp (cuts := []) hok' (by simp) ⟨by simp, List.Pairwise.nil⟩ slR_none hT H) ?_
    rintro _ w ⟨rfl, H⟩
    (with_reducible (repeat (first | refine pu_st ?_ | refine bn_st ?_)))
    refine condND (fun h => absurd rfl h) (fun _ => ?_)
    refine Cl.of alumref10_Merged_en (rMerged_sp (by omega) ht H) ?_
    rintro mv w H
    obtain ⟨am, capm, rfl, -⟩ := H.slAt Has.n0
    have hokc := ok_crash hok'
    have hmd : ∀ x ∈ mergedE E, i64 x.1 ∧ loadM (crashM M' []).L x.1 = (x.2, 0) := fun x hx => by
      have h1 := ((mergedE_is E).2 x.1 x.2).1 hx
      exact ⟨hEi _ (lastE_mem h1), hdur _ _ h1⟩
    generalize crashM M' [] = Mc at *
    have hml := mergedE_len E
    generalize mergedE E = L at H hmd hml ⊢
    (with_reducible (repeat (first | refine pu_st ?_ | refine bn_st ?_)))
    refine ⟨fun v w => ∃ i : Nat, i ≤ L.length ∧ v = .int .i64 (i : Int) ∧ Sat c (MemH m Mc :: ownS 58 2 (.slice am L.length capm) L.length ((L.map enC).flatten) :: ownS 3 1 (.slice ak (linesE E).length capk) (linesE E).length (((linesE E).map intC).flatten) :: RMemH r M' :: MemH m2 M :: Γ) w, fun v _ => L.length - (intOf v).toNat, ⟨0, Nat.zero_le _, rfl, H.get Has.n1⟩, ?_⟩
    intros
    rename_i w hI
    obtain ⟨i, hi, rfl, H⟩ := hI
    (with_reducible (repeat (first | refine pu_st ?_ | refine bn_st ?_)))
    refine condD (fun hlt => ?_) (fun hlt => ?_)
    · have hlt : i < L.length := by omega
      obtain ⟨x, hx⟩ : ∃ x, L[i]? = some x := ⟨L[i]'hlt, List.getElem?_eq_getElem _⟩
      obtain ⟨hx1, hx2⟩ := hmd x (List.mem_of_getElem? hx)
      obtain ⟨b1, o1, cap1, e, -, hc⟩ := slAt.elem (enc := enC) enC_len (H.slAt Has.n1) hx
      cases e
      refine pu_indexN hlt ?_
      refine bn_loadN hc rfl ?_
      refine bn_alloc H fun b5 w H => ?_
      refine bn_storeN (vs := enC x) H Has.n0 rfl (by simp [enC]) (enC_one x) fun w H => ?_
      (with_reducible (repeat (first | refine pu_st ?_ | refine bn_st ?_)))
      refine bn_load1 (H.cell (cs := enC x) (t := 58) Has.n0 rfl) ?_
      obtain ⟨mb, es, ck, H⟩ := (H.get Has.n1).nameM
      obtain ⟨c1, lv, ps, ev, R, hT1, m1, H1, back⟩ := H.lentM hT
      refine Cl.of memory_Memory_Load_en (Load_sp x.1 hx1 hokc R hT1 H1) ?_
      rintro _ w ⟨rfl, H1⟩
      rw [hx2]
      have H := (back H1).hideM
      (with_reducible (repeat (first | refine pu_st ?_ | refine bn_st ?_)))
      refine bn_load1 (H.cell (cs := enC x) (t := 58) Has.n1 rfl) ?_
      (with_reducible (repeat (first | refine pu_st ?_ | refine bn_st ?_)))
      refine condND (fun h => absurd rfl h) (fun _ => ?_)
      (with_reducible (repeat (first | refine pu_st ?_ | refine bn_st ?_)))
      refine condND (fun h => absurd rfl h) (fun _ => ?_)
      refine pu_succ (by omega) ?_
      refine ⟨⟨i + 1, by omega, rfl, ?_⟩, by simp [intOf]; omega⟩
      exact (H.get Has.n1).tail
    refine Cl.of (by kernel_rfl) (sanity_sp hT H) ?_
    rintro _ w ⟨rfl, H⟩
    exact ⟨rfl, H.tail.tail.tail.tail.tail⟩

end
end Go.Proofs.YtlolaieolgmdnaaGreatDoor
