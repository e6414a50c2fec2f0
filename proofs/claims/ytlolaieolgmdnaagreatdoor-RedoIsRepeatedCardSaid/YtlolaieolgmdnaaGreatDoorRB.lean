/-
  The specification's memory: Words, Right, From, SameImage, SameSeen.
-/
import Derived.Test.YtlolaieolgmdnaaGreatDoorRA
import Derived.Test.YtlolaieolgmdnaaGreatDoorEq
namespace Go.Proofs.YtlolaieolgmdnaaGreatDoor
open Go.RowKit
set_option linter.unusedVariables false
set_option linter.unusedSimpArgs false
set_option maxRecDepth 10000

section
variable {c : Cx} {Γ : List HProp} {w : World} {r : Nat} {M : MemS} {lv ev : Value} {ps : List Value}

theorem rword_sp (n : Int) (H : Sat c Γ w) : Calls Tryz.prog 92 #[.int .i64 n] w (Rt (Yes c Γ (.bool (okW n)))) := by
  refine alumref04_word_ok ?_
  unfold alumref04_word_w
  (with_reducible (repeat (first | refine pu_st ?_ | refine bn_st ?_)))
  refine condD (fun h0 => ?_) (fun h0 => ?_)
  · (with_reducible (repeat (first | refine pu_st ?_ | refine bn_st ?_)))
    exact ⟨by unfold okW; simp; omega, H⟩
  · exact ⟨by unfold okW; simp; omega, H⟩

theorem okAll_get (l : W8) : okAll l = true ↔ ∀ j < 8, okW (l.get j) = true := by
  rw [← okAll_any]
  constructor
  · intro h j hj
    simp only [w8L, Bool.not_eq_true', List.any_eq_false, Bool.not_eq_true, List.mem_cons, List.not_mem_nil, or_false] at h
    have : ∀ x, x = l.a0 ∨ x = l.a1 ∨ x = l.a2 ∨ x = l.a3 ∨ x = l.a4 ∨ x = l.a5 ∨ x = l.a6 ∨ x = l.a7 → okW x = true := fun x hx => by simpa using h x hx
    rcases j with _ | _ | _ | _ | _ | _ | _ | _ | j <;> first | (exact absurd hj (by omega)) | (exact this _ (by simp [W8.get]))
  · intro h
    have h0 := h 0 (by omega); have h1 := h 1 (by omega); have h2 := h 2 (by omega); have h3 := h 3 (by omega)
    have h4 := h 4 (by omega); have h5 := h 5 (by omega); have h6 := h 6 (by omega); have h7 := h 7 (by omega)
    simp only [W8.get] at h0 h1 h2 h3 h4 h5 h6 h7
    simp [w8L, h0, h1, h2, h3, h4, h5, h6, h7]

theorem rWords_sp (l : W8) (H : Sat c Γ w) : Calls Tryz.prog 84 #[.agg (w8C l).toArray] w (Rt (Yes c Γ (.bool (okAll l)))) := by
  refine alumref04_Words_ok ?_
  unfold alumref04_Words_w
  refine bn_box (z := w8C l) rfl H fun b w H => ?_
  refine ⟨fun v w => ∃ i : Nat, i ≤ 8 ∧ v = .int .i64 (i : Int) ∧ (∀ j < i, okW (l.get j) = true) ∧ Sat c (blk b (w8C l) 80 :: Γ) w, fun v _ => 8 - (intOf v).toNat, ⟨0, Nat.zero_le _, rfl, fun j h => absurd h (Nat.not_lt_zero _), H⟩, ?_⟩
  intros
  rename_i w hI
  obtain ⟨i, hi, rfl, hall, H⟩ := hI
  (with_reducible (repeat (first | refine pu_st ?_ | refine bn_st ?_)))
  refine condD (fun hlt => ?_) (fun hlt => ?_)
  · have hlt : i < 8 := by omega
    refine pu_indexA (by omega) (by omega) ?_
    refine bn_load1 (Sat.cell (cs := w8C l) H Has.n0 (by simpa using w8C_get l i hlt)) ?_
    refine Cl.of alumref04_word_en (rword_sp _ H) ?_
    rintro _ w ⟨rfl, H⟩
    (with_reducible (repeat (first | refine pu_st ?_ | refine bn_st ?_)))
    refine condNB (fun hw => ?_) (fun hw => ?_)
    · refine ⟨?_, H.tail⟩
      have : okAll l = false := Bool.eq_false_iff.2 fun h => by rw [(okAll_get l).1 h i hlt] at hw; cases hw
      rw [this]
    · refine pu_succ (by omega) ?_
      refine ⟨⟨i + 1, by omega, rfl, fun j hj => ?_, H⟩, by simp [intOf]; omega⟩
      rcases (by omega : j < i ∨ j = i) with h | rfl
      · exact hall j h
      · exact hw
  · have : i = 8 := by omega
    subst this
    exact ⟨by rw [(okAll_get l).2 hall], H.tail⟩

theorem rRight_sp {v : Value} {l : List Im} (hn : l.length ≤ 9223372036854775807) (hv : SlR c v l.length ((l.map imgC).flatten)) (H : Sat c Γ w) :
    Calls Tryz.prog 46 #[v] w (Rt (Yes c Γ (.bool (rightI l)))) := by
  refine alumref04_Right_ok ?_
  unfold alumref04_Right_w
  obtain ⟨a, cap, rfl, hle, hnil, -⟩ := hv H
  refine ⟨fun v w => ∃ i : Nat, i ≤ l.length ∧ v = .int .i64 (i : Int) ∧ (∀ j x, j < i → l[j]? = some x → validB x.1 x.2 = true) ∧ Sat c Γ w, fun v _ => l.length - (intOf v).toNat, ⟨0, Nat.zero_le _, rfl, fun j x h => by omega, H⟩, ?_⟩
  intros
  rename_i w hI
  obtain ⟨i, hi, rfl, hall, H⟩ := hI
  (with_reducible (repeat (first | refine pu_st ?_ | refine bn_st ?_)))
  refine condD (fun hlt => ?_) (fun hlt => ?_)
  · have hlt : i < l.length := by omega
    obtain ⟨x, hx⟩ : ∃ x, l[i]? = some x := ⟨l[i]'(by omega), List.getElem?_eq_getElem _⟩
    obtain ⟨b1, o1, cap1, e, -, hc⟩ := slAt.elem (enc := imgC) imgC_len (hv H) hx
    cases e
    have hc' : ∀ {Γ : List HProp} {w : World}, Sat c Γ w → cellsAt w b1 (o1 + i * 9) (imgC x) := fun H => by
      obtain ⟨b', o', cap', e, -, hc⟩ := slAt.elem (enc := imgC) imgC_len (hv H) hx
      cases e; exact hc
    have h8 : ∀ {Γ : List HProp} {w : World}, Sat c Γ w → w.cell? ⟨b1, o1 + i * 9 + 8, none⟩ = some (.int .i64 x.2) := fun H => hc' H 8 _ rfl
    refine pu_indexN hlt ?_
    (with_reducible (repeat (first | refine pu_st ?_ | refine bn_st ?_)))
    refine bn_loadN (vs := w8C x.1) (fun j v hj => hc' H j v ?_) rfl ?_
    · unfold imgC; rw [List.getElem?_append_left (List.getElem?_eq_some_iff.1 hj).1]; exact hj
    refine Cl.of alumref04_Words_en (rWords_sp x.1 H) ?_
    rintro _ w ⟨rfl, H⟩
    (with_reducible (repeat (first | refine pu_st ?_ | refine bn_st ?_)))
    refine condNB (fun hw => ?_) (fun hw => ?_)
    · exact ⟨by rw [no_right hx (by rw [validB_ok, hw]; rfl)], H⟩
    refine pu_indexN hlt ?_
    (with_reducible (repeat (first | refine pu_st ?_ | refine bn_st ?_)))
    (refine bn_load1 (h8 H) ?_; (with_reducible (repeat (first | refine pu_st ?_ | refine bn_st ?_))))
    refine condD (fun h3 => ?_) (fun h3 => ?_)
    · exact ⟨by rw [no_right hx (by rw [validB_ok]; simp; omega)], H⟩
    refine pu_indexN hlt ?_
    (with_reducible (repeat (first | refine pu_st ?_ | refine bn_st ?_)))
    (refine bn_load1 (h8 H) ?_; (with_reducible (repeat (first | refine pu_st ?_ | refine bn_st ?_))))
    refine condD (fun h4 => ?_) (fun h4 => ?_)
    · exact ⟨by rw [no_right hx (by rw [validB_ok]; simp; omega)], H⟩
    refine pu_succ (by omega) ?_
    refine ⟨⟨i + 1, by omega, rfl, ?_, H⟩, by simp [intOf]; omega⟩
    intro j y hj hy
    rcases (by omega : j < i ∨ j = i) with h | rfl
    · exact hall j y h hy
    · rw [hx] at hy; cases hy; rw [validB_ok, hw]; simp; omega
  · have : i = l.length := by omega
    subst this
    have hr : rightI l = decide (1 ≤ l.length ∧ l.length ≤ 4096) := by
      unfold rightI
      rw [List.all_eq_true.2 fun x hx => ?_, Bool.and_true]
      obtain ⟨j, hj, rfl⟩ := List.getElem_of_mem hx
      exact hall j _ hj (List.getElem?_eq_getElem hj)
    rw [hr]
    (with_reducible (repeat (first | refine pu_st ?_ | refine bn_st ?_)))
    refine condD (fun h1 => ?_) (fun h1 => ?_)
    · (with_reducible (repeat (first | refine pu_st ?_ | refine bn_st ?_)))
      exact ⟨by rw [Value.bool.injEq]; exact decide_eq_decide.2 (by omega), H⟩
    · exact ⟨by rw [Value.bool.injEq]; exact (decide_eq_false (by omega)).symm, H⟩

theorem freshRM {l : List Im} (H : Sat c (ownS 91 11 lv l.length ((l.map lnN).flatten) :: blk r [lv, .int .i64 0, nilS] 33 :: Γ) w) :
    Sat c (RMemH r ⟨l.map lineOf, 0, []⟩ :: Γ) w := by
  have hz2 : (l.map lineOf).zip (List.replicate (l.map lineOf).length nilS) = l.map fun x => (lineOf x, nilS) := by rw [zip_rep, List.map_map]; rfl
  refine Sat.shutRM (lv := lv) (ev := nilS) (ps := List.replicate (l.map lineOf).length nilS) (by simp) ?_
  rw [hz2]
  have H2 : Sat c (big ((l.map fun x => (lineOf x, nilS)).map pendH) :: ownS 111 12 nilS 0 [] :: ownS 91 11 lv l.length ((l.map lnN).flatten) :: blk r [lv, .int .i64 0, nilS] 33 :: Γ) w :=
    Sat.bigNil (Sat.nilS none H) (by
      intro p hp
      obtain ⟨y, hy, rfl⟩ := List.mem_map.1 hp
      obtain ⟨x, _, rfl⟩ := List.mem_map.1 hy
      exact ownS_nil _ _ none _)
  have e3 : ((l.map fun x => (lineOf x, nilS)).map lnC).flatten = (l.map lnN).flatten := by rw [List.map_map]; rfl
  rw [e3]
  have H3 := H2.pull (ps := [blk r [lv, .int .i64 0, nilS] 33, ownS 91 11 lv l.length ((l.map lnN).flatten),
    ownS 111 12 nilS 0 [], big ((l.map fun x => (lineOf x, nilS)).map pendH)]) (.cons Has.n3 (.cons Has.n2 (.cons Has.n1 (.cons Has.n0 .nil))))
  simpa using H3

theorem rFrom_sp {v : Value} {l : List Im} (hn : l.length ≤ 9223372036854775807) (hv : SlR c v l.length ((l.map imgC).flatten)) (H : Sat c Γ w) :
    Calls Tryz.prog 7 #[v] w (Rt fun u w' => ∃ r, u = .pointer (some ⟨r, 0, none⟩) ∧ Sat c (RMemH r ⟨(if rightI l then l else []).map lineOf, 0, []⟩ :: Γ) w') := by
  refine alumref04_From_ok ?_
  unfold alumref04_From_w
  obtain ⟨a, cap, rfl, hle, hnil, -⟩ := hv H
  refine pu_build (cs := [nilS, .int .i64 0, nilS]) rfl ?_
  refine bn_box rfl H fun r w H => ?_
  refine Cl.of alumref04_Right_en (rRight_sp hn hv H) ?_
  rintro _ w ⟨rfl, H⟩
  refine ⟨fun v w => ∃ i : Nat, i ≤ l.length ∧ v = .int .i64 (i : Int) ∧ (i ≠ 0 → rightI l = true) ∧ ∃ lv, Sat c (ownS 91 11 lv i (((l.take i).map lnN).flatten) :: blk r [lv, .int .i64 0, nilS] 33 :: Γ) w, fun v _ => l.length - (intOf v).toNat, ⟨0, Nat.zero_le _, rfl, fun h => absurd rfl h, nilS, Sat.nilS none H⟩, ?_⟩
  intros
  rename_i w hI
  obtain ⟨i, hi, rfl, hri, lv, H⟩ := hI
  (with_reducible (repeat (first | refine pu_st ?_ | refine bn_st ?_)))
  refine condD (fun hlt => ?_) (fun hlt => ?_)
  · have hlt : i < l.length := by omega
    refine condB (fun hr => ?_) (fun hr => ?_)
    · have h46 : l.length ≤ 4096 := by
        have hr2 := hr
        unfold rightI at hr2
        rw [Bool.and_eq_true, decide_eq_true_eq] at hr2
        exact hr2.1.2
      obtain ⟨x, hx⟩ : ∃ x, l[i]? = some x := ⟨l[i]'(by omega), List.getElem?_eq_getElem _⟩
      obtain ⟨b1, o1, cap1, e, -, hc⟩ := slAt.elem (enc := imgC) imgC_len (hv H) hx
      cases e
      have hc' : ∀ {Γ : List HProp} {w : World}, Sat c Γ w → cellsAt w b1 (o1 + i * 9) (imgC x) := fun H => by
        obtain ⟨b', o', cap', e, -, hc⟩ := slAt.elem (enc := imgC) imgC_len (hv H) hx
        cases e; exact hc
      have h8 : ∀ {Γ : List HProp} {w : World}, Sat c Γ w → w.cell? ⟨b1, o1 + i * 9 + 8, none⟩ = some (.int .i64 x.2) := fun H => hc' H 8 _ rfl
      have h7 : ∀ {Γ : List HProp} {w : World}, Sat c Γ w → cellsAt w b1 (o1 + i * 9) (w8C x.1) := fun H j v hj => hc' H j v (by unfold imgC; rw [List.getElem?_append_left (List.getElem?_eq_some_iff.1 hj).1]; exact hj)
      (refine ⟨Sat _ _, Sat _ _, Sat.drew H, fun _ h => h, ?_⟩; (with_reducible (repeat (first | refine pu_st ?_ | refine bn_st ?_))))
      refine pu_indexN hlt ?_
      (with_reducible (repeat (first | refine pu_st ?_ | refine bn_st ?_)))
      refine pu_indexN hlt ?_
      (with_reducible (repeat (first | refine pu_st ?_ | refine bn_st ?_)))
      (refine ⟨_, fun w H => run_load1 (H.cell Has.n1 rfl), ?_⟩; (with_reducible (repeat (first | refine pu_st ?_ | refine bn_st ?_))))
      (refine ⟨_, fun w H => run_loadN rfl (h7 H), ?_⟩; (with_reducible (repeat (first | refine pu_st ?_ | refine bn_st ?_))))
      (refine ⟨_, fun w H => run_load1 (h8 H), ?_⟩; (with_reducible (repeat (first | refine pu_st ?_ | refine bn_st ?_))))
      refine pu_build (cs := lnN x) (by kernel_rfl) ?_
      (refine ⟨fun w H => ?_, trivial⟩; (with_reducible (repeat (first | refine pu_st ?_ | refine bn_st ?_))))
      refine bn_one (cs := lnN x) rfl (lnN_len x) (by decide) H fun u w H => ?_
      (refine ⟨Sat _ _, Sat _ _, H, fun _ h => h, (by first | trivial | exact fun _ h => h | exact fun _ h => h.tail | exact fun _ h => h.tail.tail), ?_⟩; (with_reducible (repeat (first | refine pu_st ?_ | refine bn_st ?_))))
      (refine ⟨fun w H => ?_, trivial⟩; (with_reducible (repeat (first | refine pu_st ?_ | refine bn_st ?_))))
      have hl : slAt w u 1 (lnN x) := H.slAt Has.n0
      refine bn_appendR H Has.n1 hl rfl (lnC_one rfl) (by omega) (by unfold maxLen; omega) (by omega) fun lv' w H => ?_
      (refine ⟨Sat _ _, Sat _ _, H, fun _ h => h, (by first | trivial | exact fun _ h => h | exact fun _ h => h.tail | exact fun _ h => h.tail.tail), ?_⟩; (with_reducible (repeat (first | refine pu_st ?_ | refine bn_st ?_))))
      (refine ⟨fun w H => ?_, trivial⟩; (with_reducible (repeat (first | refine pu_st ?_ | refine bn_st ?_))))
      refine bn_store1 H Has.n2 (by simp) ?_ fun w H => ?_
      · obtain ⟨a, cap, rfl, -⟩ := H.slAt Has.n0; rfl
      (refine ⟨Sat _ _, Sat _ _, H, fun _ h => h, (by first | trivial | exact fun _ h => h | exact fun _ h => h.tail | exact fun _ h => h.tail.tail), ?_⟩; (with_reducible (repeat (first | refine pu_st ?_ | refine bn_st ?_))))
      (intro w H; (with_reducible (repeat (first | refine pu_st ?_ | refine bn_st ?_))))
      refine pu_succ (by omega) ?_
      refine ⟨⟨i + 1, by omega, rfl, fun _ => hr, lv', ?_⟩, by simp [intOf]; omega⟩
      rw [take_succ_of hx, List.map_append, List.flatten_append]
      have := ((H.get Has.n2).tail).get Has.n1
      simpa using this
    · refine ⟨r, rfl, ?_⟩
      rw [hr]
      have h0 : i = 0 := Classical.byContradiction fun h => by rw [hri h] at hr; cases hr
      subst h0
      exact freshRM (l := []) H
  · have : i = l.length := by omega
    subst this
    refine ⟨r, rfl, ?_⟩
    rw [List.take_length] at H
    split
    · exact freshRM H
    · rename_i hr
      have : l.length = 0 := Classical.byContradiction fun h => hr (hri h)
      have : l = [] := List.eq_nil_of_length_eq_zero this
      subst this
      exact freshRM (l := []) H

end

end Go.Proofs.YtlolaieolgmdnaaGreatDoor
