/-
  A new memory; the law's examples.
-/
import Derived.Test.YtlolaieolgmdnaaDoorRH

import Derived.Test.YtlolaieolgmdnaaDoorSh4

namespace Go.Proofs.YtlolaieolgmdnaaDoor

open Go.RowKit
set_option linter.unusedVariables false
set_option linter.unusedSimpArgs false
set_option maxRecDepth 10000

theorem pu_ptrEq {P : Program} {K : Value → Prop} {t e : Nat} {x y : Operand} {a : Addr} (he : P.underlying t = some (.pointer e)) (hi : (P.info? e).isSome = true) (h : K (.bool true)) : Pu P (bopS .eql t x y (.pointer (some a)) (.pointer (some a))) K :=
  ⟨_, fun w => by
    unfold bopS
    rw [Sem.run_bind, eqGuard_ptr]
    have e : (Op.equal t (.pointer (some a)) (.pointer (some a))).run P w = .ok true w := by
      obtain ⟨inf, hinf⟩ := Option.isSome_iff_exists.1 hi
      have e1 : Op.equal t (.pointer (some a)) (.pointer (some a)) = Op.equalIn (9999 + 1) t (.pointer (some a)) (.pointer (some a)) := rfl
      rw [e1]
      unfold Op.equalIn
      simp [run_underlying he, sizeOf, typeInfo, hinf]
      intro _
      simp [sameAddr]
    simp only [Result.andThen_ok, binOp, Sem.run_bind, e, Sem.run_pure], h⟩

section

variable {c : Cx} {Γ Δ Ω : List HProp} {w : World} {m v : Nat} {M : MemS} {lv ev : Value} {ps : List Value} {mb ck : Nat} {es : Array MapEntry} {E : List En} {K : Value → World → Prop}

theorem New_sp {n : Nat} (h1 : 1 ≤ n) (h2 : n ≤ 4096) (hT : TabC c) (H : Sat c Γ w) :
    Calls Tryd.prog 28 #[.int .i64 (n : Int)] w (Rt fun u w' => ∃ m, u = .pointer (some ⟨m, 0, none⟩) ∧ Sat c (MemH m ⟨(List.replicate n (zer, enc zer)).map lineOf, 0, []⟩ :: Γ) w') := by
  refine memory_New_ok ?_
  unfold memory_New_w
  (with_reducible (repeat (first | refine pu_st ?_ | refine bn_st ?_)))
  refine condF (by omega) ?_
  (with_reducible (repeat (first | refine pu_st ?_ | refine bn_st ?_)))
  refine condF (by omega) ?_
  refine bn_make H (by omega) (by omega) fun b w z hz hzl H => ?_
  have hze : z = lnN ((zer, 0) : Im) := by
    have h := hz.symm.trans (by kernel_rfl : sliceT Tryd.prog 50 = some (57, 11, 104, lnN ((zer, 0) : Im)))
    injection h with h
    injection h with _ h
    injection h with _ h
    injection h with _ h
  refine pu_build0 ?_
  refine Cl.of (by kernel_rfl) (of_RetB H (encode_any 0 0 0 0 0 0 0 0 w (hT H))) ?_
  rintro _ w ⟨rfl, H⟩
  (with_reducible (repeat (first | refine pu_st ?_ | refine bn_st ?_)))
  have hrep : (List.replicate n z) = fillR lnN z (List.replicate n (zer, enc zer)) 0 := by rw [fillR_zero, List.length_replicate]
  rw [hrep] at H
  refine ⟨fun v w => ∃ i : Nat, i ≤ n ∧ v = .int .i64 (i : Int) ∧ Sat c (blk b ((fillR lnN z (List.replicate n (zer, enc zer)) i).flatten) 57 :: Γ) w, fun v _ => n - (intOf v).toNat, ⟨0, Nat.zero_le _, rfl, H⟩, ?_⟩
  intros
  rename_i w hI
  obtain ⟨i, hi, rfl, H⟩ := hI
  (with_reducible (repeat (first | refine pu_st ?_ | refine bn_st ?_)))
  refine condD (fun hlt => ?_) (fun hlt => ?_)
  · have hlt : i < n := by omega
    have hx : (List.replicate n (zer, enc zer))[i]? = some (zer, enc zer) := by rw [List.getElem?_replicate]; simp [hlt]
    refine pu_indexN hlt ?_
    (with_reducible (repeat (first | refine pu_st ?_ | refine bn_st ?_)))
    have hrow : (fillR lnN z (List.replicate n (zer, enc zer)) i)[i]? = some z := by
      unfold fillR
      rw [List.getElem?_append_right (by simp; omega), List.getElem?_replicate]
      simp; omega
    refine bn_store1 H Has.n0 ?_ rfl fun w H => ?_
    · rw [rowsF_len (fillR_rows lnN_len hzl _ i), fillR_len _ _ _ _ (by simp; omega), List.length_replicate]
      have : (i + 1) * 11 ≤ n * 11 := Nat.mul_le_mul_right _ hlt
      omega
    refine pu_succ (by omega) ?_
    refine ⟨⟨i + 1, by omega, rfl, ?_⟩, by simp [intOf]; omega⟩
    rw [Nat.zero_add, show ((fillR lnN z (List.replicate n (zer, enc zer)) i).flatten).set (i * 11 + 8) (.int .i64 (enc ⟨0, 0, 0, 0, 0, 0, 0, 0⟩)) = wrL ((fillR lnN z (List.replicate n (zer, enc zer)) i).flatten) (i * 11 + 8) [.int .i64 (enc zer)] from rfl,
      wrL_rowsO _ i 8 z _ (fillR_rows lnN_len hzl _ i) hrow (by simp)] at H
    have e2 : wrL z 8 [.int .i64 (enc zer)] = lnN (zer, enc zer) := by rw [hze]; rfl
    rw [e2, fillR_set _ _ _ _ _ hx] at H
    exact H
  · have : i = n := by omega
    subst this
    have hend : fillR lnN z (List.replicate i (zer, enc zer)) i = (List.replicate i (zer, enc zer)).map lnN := by
      have := fillR_end lnN z (List.replicate i (zer, enc zer))
      rwa [List.length_replicate] at this
    rw [hend] at H
    generalize hl : List.replicate i (zer, enc zer) = l at *
    have hil : i = l.length := by rw [← hl, List.length_replicate]
    refine bn_map H fun mb w H => ?_
    refine pu_build (cs := [.slice (some ⟨b, 0, none⟩) i i, .map (some mb), .int .i64 0, nilS]) rfl ?_
    refine bn_box rfl H fun m w H => ?_
    refine ⟨m, rfl, ?_⟩
    have hz2 : (l.map lineOf).zip (List.replicate (l.map lineOf).length nilS) = l.map fun x => (lineOf x, nilS) := by rw [zip_rep, List.map_map]; rfl
    refine Sat.shutM (lv := .slice (some ⟨b, 0, none⟩) i i) (ev := nilS) (mb := mb) (ps := List.replicate (l.map lineOf).length nilS) (es := #[]) (ck := 0) (psOk_rep _) ?_ ?_
    · exact ⟨by simp, fun n y hy hp => absurd (by obtain ⟨x, _, rfl⟩ := List.mem_map.1 (List.mem_of_getElem? hy); rfl) hp, by simp, by simp, by simp⟩
    · rw [hz2]
      have H1 := ((H.get Has.n2).shutS0 (sz := 11) (n := (l.map lineOf).length) (by rw [rows_length lnN 11 lnN_len]; simp))
      have H2 : Sat c (big ((l.map fun x => (lineOf x, nilS)).map pendH) :: ownS 77 12 nilS 0 [] :: ownS 57 11 (.slice (some ⟨b, 0, none⟩) (l.map lineOf).length (l.map lineOf).length) (l.map lineOf).length ((l.map lnN).flatten) :: blk m [.slice (some ⟨b, 0, none⟩) i i, .map (some mb), .int .i64 0, nilS] 61 :: obj mb (.map #[] 0) :: Γ) w :=
        Sat.bigNil (Sat.nilS none H1) (by
          intro p hp
          obtain ⟨y, hy, rfl⟩ := List.mem_map.1 hp
          obtain ⟨x, _, rfl⟩ := List.mem_map.1 hy
          exact ownS_nil _ _ none _)
      have e3 : ((l.map fun x => (lineOf x, nilS)).map lnC).flatten = (l.map lnN).flatten := by rw [List.map_map]; rfl
      rw [e3]
      have hil2 : (l.map lineOf).length = i := by rw [List.length_map, ← hil]
      rw [hil2] at H2 ⊢
      have H3 := H2.pull (ps := [blk m [.slice (some ⟨b, 0, none⟩) i i, .map (some mb), .int .i64 0, nilS] 61, ownS 57 11 (.slice (some ⟨b, 0, none⟩) i i) i ((l.map lnN).flatten),
        obj mb (.map #[] 0), ownS 77 12 nilS 0 [], big ((l.map fun x => (lineOf x, nilS)).map pendH)]) (.cons Has.n3 (.cons Has.n2 (.cons Has.n2 (.cons Has.n1 (.cons Has.n0 .nil)))))
      simpa using H3

theorem en_zero {z : List Value} (hz : sliceT Tryd.prog 24 = some (34, 2, 16, z)) : z = enC (0, 0) := by
  have h := hz.symm.trans (by kernel_rfl : sliceT Tryd.prog 24 = some (34, 2, 16, enC (0, 0)))
  injection h with h
  injection h with _ h
  injection h with _ h
  injection h with _ h

theorem bn_en2 (a b : En) (H : Sat c Γ w) (h : ∀ v' w', Sat c (ownS 34 2 v' [a, b].length (([a, b].map enC).flatten) :: Γ) w' → K v' w') : Bn Tryd.prog (Instr.buildSlice 24 2 #[(0, .agg (enC a).toArray), (1, .agg (enC b).toArray)]) w K :=
  bn_buildSlice (cs := ([a, b].map enC).flatten) (fun z hz => ⟨by decide, by rw [en_zero hz]; kernel_rfl⟩) rfl H h

theorem bn_en3 (a b d : En) (H : Sat c Γ w) (h : ∀ v' w', Sat c (ownS 34 2 v' [a, b, d].length (([a, b, d].map enC).flatten) :: Γ) w' → K v' w') : Bn Tryd.prog (Instr.buildSlice 24 3 #[(0, .agg (enC a).toArray), (1, .agg (enC b).toArray), (2, .agg (enC d).toArray)]) w K :=
  bn_buildSlice (cs := ([a, b, d].map enC).flatten) (fun z hz => ⟨by decide, by rw [en_zero hz]; kernel_rfl⟩) rfl H h

theorem rec_zero {z : List Value} (hz : sliceT Tryd.prog 41 = some (44, 2, 32, z)) : z = recC (((0 : Int), []), nilS) := by
  have h := hz.symm.trans (by kernel_rfl : sliceT Tryd.prog 41 = some (44, 2, 32, recC (((0 : Int), []), nilS)))
  injection h with h
  injection h with _ h
  injection h with _ h
  injection h with _ h

theorem bn_rec2 (a b : Rec × Value) (H : Sat c Γ w) (h : ∀ v' w', Sat c (ownS 44 2 v' [a, b].length (([a, b].map recC).flatten) :: Γ) w' → K v' w') : Bn Tryd.prog (Instr.buildSlice 41 2 #[(0, .agg (recC a).toArray), (1, .agg (recC b).toArray)]) w K :=
  bn_buildSlice (cs := ([a, b].map recC).flatten) (fun z hz => ⟨by decide, by rw [rec_zero hz]; kernel_rfl⟩) rfl H h

theorem loadV_last {M : MemS} {E : List En} {a x : Int} (h : lastE E a = some x) : loadV M E a = (x, 0) := by unfold loadV; rw [h]

theorem linesE_three : linesE [(9, 0), (3, 0), (8, 0)] = [0, 1] := by
  have h : ([(9, 0), (3, 0), (8, 0)] : List En).map (fun x => x.1.tdiv 8) = [1, 0, 1] := by decide
  unfold linesE
  rw [h]
  have hp : ([1, 0, 1] : List Int).Perm [0, 1, 1] := List.Perm.swap 0 1 [1]
  have hs : ([1, 0, 1] : List Int).mergeSort (fun x y => decide (x ≤ y)) = [0, 1, 1] := by
    have := mergeSort_of_perm_i hp
    unfold leI at this
    rw [this]
    exact List.mergeSort_of_pairwise (by decide)
  rw [hs]
  decide

theorem SameOwn_sp {u u' : Value} {a b : List En} (ha : a.length ≤ 1000000) (H : Sat c (ownS 34 2 u a.length ((a.map enC).flatten) :: ownS 34 2 u' b.length ((b.map enC).flatten) :: Γ) w) :
    Calls Tryd.prog 20 #[u, u'] w (Rt (Yes c (ownS 34 2 u a.length ((a.map enC).flatten) :: ownS 34 2 u' b.length ((b.map enC).flatten) :: Γ) (.bool (decide (a.map enL = b.map enL))))) := by
  obtain ⟨c1, A1, m1, H1, b1⟩ := H.lent
  obtain ⟨c2, A2, m2, H2, b2⟩ := H1.lent
  refine (SameEn_sp ha (m2 _ A1).slR A2.slR H2).mono ?_
  rintro e w' ⟨x, rfl, hx, H3⟩
  exact ⟨x, rfl, hx, b1 (b2 H3)⟩

theorem sanity_sp (hT : TabC c) (H : Sat c Γ w) : Calls Tryd.prog 7 #[] w (Rt (Yes c Γ (.bool true))) := by
  refine alumlaw10_sanity_ok ?_
  unfold alumlaw10_sanity_w
  refine Cl.of memory_New_en (New_sp (n := 2) (by omega) (by omega) hT H) ?_
  rintro _ w ⟨m, rfl, H⟩
  have hok : MemS.ok ⟨(List.replicate 2 (zer, enc zer)).map lineOf, 0, []⟩ := ⟨by simp, fun y hy => by
    obtain ⟨x, _, rfl⟩ := List.mem_map.1 hy
    exact ⟨fun s hs => (by cases hs), by simp [lineOf], by simp [lineOf], by simp [lineOf]⟩, by simp⟩
  have hL : (⟨(List.replicate 2 (zer, enc zer)).map lineOf, 0, []⟩ : MemS).L.length = 2 := by simp
  generalize (⟨(List.replicate 2 (zer, enc zer)).map lineOf, 0, []⟩ : MemS) = M at *
  obtain ⟨c', hA, hm, H2, back⟩ := H.lent
  replace H := H2
  clear H2
  have hT' : TabC c' := fun H => hT (back H)
  obtain ⟨lv, ps, mb, es, ck, ev, R⟩ := hA.mem
  refine Cl.of redo_Over_en (Over_sp H) ?_
  rintro _ w ⟨v, rfl, H⟩
  (with_reducible (repeat (first | refine pu_st ?_ | refine bn_st ?_)))
  refine condB (fun h => by cases h) (fun _ => ?_)
  (with_reducible (repeat (first | refine pu_st ?_ | refine bn_st ?_)))
  refine condB (fun h => by cases h) (fun _ => ?_)
  refine Cl.of redo_View_Set_en (Set_sp 9 5 (by unfold i64; omega) (by simp) R H) ?_
  rintro _ w ⟨rfl, H⟩
  rw [hL, show setV 2 [] 9 5 = (0, [(9, 5)]) by decide] at H
  refine Cl.of redo_View_Set_en (Set_sp 3 1 (by unfold i64; omega) (by simp) R H) ?_
  rintro _ w ⟨rfl, H⟩
  rw [hL, show setV 2 [(9, 5)] 3 1 = (0, [(9, 5), (3, 1)]) by decide] at H
  refine Cl.of redo_View_Set_en (Set_sp 9 7 (by unfold i64; omega) (by simp) R H) ?_
  rintro _ w ⟨rfl, H⟩
  rw [hL, show setV 2 [(9, 5), (3, 1)] 9 7 = (0, [(9, 5), (3, 1), (9, 7)]) by decide] at H
  refine Cl.of (by kernel_rfl) (VLoad_sp 9 (by unfold i64; omega) (by simp) hok R hT' H) ?_
  rintro _ w ⟨rfl, H⟩
  rw [loadV_last (show lastE [(9, 5), (3, 1), (9, 7)] 9 = some 7 by decide)]
  (with_reducible (repeat (first | refine pu_st ?_ | refine bn_st ?_)))
  refine pu_build (cs := enC (3, 1)) (by kernel_rfl) ?_
  refine pu_build (cs := enC (9, 7)) (by kernel_rfl) ?_
  refine bn_en2 _ _ H fun want w H => ?_
  (with_reducible (repeat (first | refine pu_st ?_ | refine bn_st ?_)))
  refine condT rfl ?_
  (with_reducible (repeat (first | refine pu_st ?_ | refine bn_st ?_)))
  refine condT rfl ?_
  refine Cl.of redo_View_Entries_en (Entries_sp (by simp) (by unfold i64; simp) (H.get Has.n1)) ?_
  rintro got w H
  rw [show mergedE [(9, 5), (3, 1), (9, 7)] = [(3, 1), (9, 7)] by decide] at H
  refine Cl.of alumref10_Same_en (SameOwn_sp (by simp) (H.pull (.cons Has.n0 (.cons Has.n1 .nil)))) ?_
  rintro _ w ⟨rfl, H⟩
  refine condT rfl ?_
  obtain ⟨ev', H⟩ := (H.get Has.n2).openV
  (with_reducible (repeat (first | refine pu_st ?_ | refine bn_st ?_)))
  refine bn_loadN (vs := [.pointer (some ⟨m, 0, none⟩)]) (H.cells Has.n0 (fun j v hj => by cases j with | zero => exact hj | succ j => cases hj)) rfl ?_
  refine Cl.of redo_base_M_en (M_sp H) ?_
  rintro _ w ⟨rfl, H⟩
  refine pu_ptrEq (e := 61) (by kernel_rfl) (by kernel_rfl) ?_
  refine Cl.of redo_View_Back_en (Back_sp 2 H.shutV) ?_
  rintro _ w H
  rw [show List.take (2 : Int).toNat (0, ([(9, 5), (3, 1), (9, 7)] : List En)).2 = [(9, 5), (3, 1)] by decide] at H
  refine Cl.of (by kernel_rfl) (VLoad_sp 9 (by unfold i64; omega) (by simp) hok R hT' H) ?_
  rintro _ w ⟨rfl, H⟩
  rw [loadV_last (show lastE [(9, 5), (3, 1)] 9 = some 5 by decide)]
  (with_reducible (repeat (first | refine pu_st ?_ | refine bn_st ?_)))
  refine condT rfl ?_
  refine Cl.of redo_View_Size_en (Size_sp H) ?_
  rintro _ w ⟨rfl, H⟩
  (with_reducible (repeat (first | refine pu_st ?_ | refine bn_st ?_)))
  refine pu_build (cs := enC (9, 5)) (by kernel_rfl) ?_
  refine pu_build (cs := enC (3, 1)) (by kernel_rfl) ?_
  refine bn_en2 _ _ H fun e1 w H => ?_
  obtain ⟨a1, cap1, rfl, -⟩ := H.slAt Has.n0
  generalize he1 : Value.slice a1 ([(9, 5), (3, 1)] : List En).length cap1 = e1 at H ⊢
  have hc1 : e1.cells = #[e1] := by rw [← he1]; rfl
  refine pu_build (cs := recC (((0 : Int), [(9, 5), (3, 1)]), e1)) (by rw [← he1]; kernel_rfl) ?_
  refine pu_build (cs := enC (9, 7)) (by kernel_rfl) ?_
  refine bn_one (cs := enC (9, 7)) rfl (enC_len _) (by decide) H fun e2 w H => ?_
  obtain ⟨a2, cap2, rfl, -⟩ := H.slAt Has.n0
  generalize he2 : Value.slice a2 1 cap2 = e2 at H ⊢
  refine pu_build (cs := recC (((0 : Int), [(9, 7)]), e2)) (by rw [← he2]; kernel_rfl) ?_
  refine bn_rec2 _ _ H fun rv w H => ?_
  obtain ⟨c1, A1, m1, H1, b1⟩ := H.lent
  obtain ⟨c2, A2, m2, H2, b2⟩ := H1.lent
  obtain ⟨c3, A3, m3, H3, b3⟩ := H2.lent
  refine Cl.of redo_Merge_en (Merge_sp (rs := [(((0 : Int), [(9, 5), (3, 1)]), e1), (((0 : Int), [(9, 7)]), e2)]) (by simp) (by simp [allE]) (by unfold i64; simp [allE]) (m3 _ (m2 _ A1)).slR (fun r hr => ?_) H3) ?_
  · simp only [List.mem_cons, List.not_mem_nil, or_false] at hr
    rcases hr with rfl | rfl
    · exact A3.slR
    · exact (m3 _ A2).slR
  rintro mv w H
  rw [show mergedE (allE (List.map (·.1) [((((0 : Int), [(9, 5), (3, 1)]) : Rec), e1), (((0 : Int), [(9, 7)]), e2)])) = [(3, 1), (9, 7)] from (show mergedE [(9, 5), (3, 1), (9, 7)] = [(3, 1), (9, 7)] by decide)] at H
  have H := b1 (b2 (b3 H))
  refine pu_build (cs := enC (9, 0)) (by kernel_rfl) ?_
  refine pu_build (cs := enC (3, 0)) (by kernel_rfl) ?_
  refine pu_build (cs := enC (8, 0)) (by kernel_rfl) ?_
  refine bn_en3 _ _ _ H fun e3 w H => ?_
  obtain ⟨c4, A4, m4, H4, b4⟩ := H.lent
  refine Cl.of redo_Lines_en (LinesE_sp (by simp) (by unfold i64; simp) A4.slR H4) ?_
  rintro kv w H
  rw [linesE_three] at H
  have H := b4 H
  refine condB (fun _ => ?_) (fun h => by cases h)
  refine condT rfl ?_
  refine Cl.of alumref10_Same_en (SameOwn_sp (by simp) (H.pull (.cons Has.n5 (.cons Has.n7 .nil)))) ?_
  rintro _ w ⟨rfl, H⟩
  refine condT rfl ?_
  have hk := H.slAt Has.n3
  obtain ⟨b0, o0, capk, rfl, -, hc⟩ := slAt.elem (enc := intC) (fun _ => rfl) (l := [0, 1]) hk (i := 0) (x := 0) rfl
  obtain ⟨b0', o0', capk', ek, -, hc'⟩ := slAt.elem (enc := intC) (fun _ => rfl) (l := [0, 1]) hk (i := 1) (x := 1) rfl
  cases ek
  (with_reducible (repeat (first | refine pu_st ?_ | refine bn_st ?_)))
  refine condT rfl ?_
  refine pu_indexS (by decide) (by decide) ?_
  refine bn_load1 (hc 0 _ rfl) ?_
  (with_reducible (repeat (first | refine pu_st ?_ | refine bn_st ?_)))
  refine condT rfl ?_
  refine pu_indexS (by decide) (by decide) ?_
  refine bn_load1 (hc' 0 _ rfl) ?_
  (with_reducible (repeat (first | refine pu_st ?_ | refine bn_st ?_)))
  exact ⟨rfl, (back H.tail.tail.tail.tail.tail.tail.tail.tail.tail).tail⟩

end

end Go.Proofs.YtlolaieolgmdnaaDoor
